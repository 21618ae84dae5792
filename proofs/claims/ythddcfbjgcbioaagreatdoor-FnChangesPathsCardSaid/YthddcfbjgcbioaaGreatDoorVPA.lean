/-
  Plain functions: commits that are left. No program is in sight here. / Plain functions: ancestors that are asked for. No program is in sight here. / Plain functions: what is sent. No program is in sight here. / Plain functions: commits from which a branch comes. No program is in sight here. / Plain functions: commits that are kept. No program is in sight here.
-/
import Derived.Test.YthddcfbjgcbioaaGreatDoorVJ
set_option linter.unusedVariables false
namespace Go.Vc
theorem filt_yes {α : Type} {P : α → Bool} {M ol xs : List α} {k : Nat} (H : M = ol ++ (xs.drop k).filter P) (h : k < xs.length) (hp : P xs[k] = true) : M = (ol ++ [xs[k]]) ++ (xs.drop (k + 1)).filter P := by
  rw [H, drop_cons xs k h, List.filter_cons_of_pos hp, List.append_assoc]; rfl
theorem filt_no {α : Type} {P : α → Bool} {M ol xs : List α} {k : Nat} (H : M = ol ++ (xs.drop k).filter P) (h : k < xs.length) (hp : P xs[k] = false) : M = ol ++ (xs.drop (k + 1)).filter P := by
  rw [H, drop_cons xs k h, List.filter_cons_of_neg (by rw [hp]; simp)]
theorem filt_end {α : Type} {P : α → Bool} {M ol xs : List α} {k : Nat} (H : M = ol ++ (xs.drop k).filter P) (h : ¬ k < xs.length) : M = ol := by
  rw [H, drop_nil xs k h, List.filter_nil, List.append_nil]
theorem none_next {cs : List Commit} {os : List Int} {x : Int} {l : Bool} {m : Nat} (H : noneB cs os x = (l && noneB cs (os.drop m) x)) (h : m < os.length) : noneB cs os x = ((l && !hasB (allOf cs os[m]) x) && noneB cs (os.drop (m + 1)) x) := by
  rw [H, drop_cons os m h, noneB, List.all_cons, Bool.and_assoc]; rfl
theorem none_end {cs : List Commit} {os : List Int} {x : Int} {l : Bool} {m : Nat} (H : noneB cs os x = (l && noneB cs (os.drop m) x)) (h : ¬ m < os.length) : noneB cs os x = l := by
  rw [H, drop_nil os m h]; simp [noneB]
theorem allOf_len (cs : List Commit) (at_ : Int) : (allOf cs at_).length ≤ cs.length := by
  have := idxs_len (anc cs at_) 0
  rw [anc_len] at this
  exact this
theorem left_len (cs : List Commit) (at_ : Int) (os : List Int) : (leftT cs at_ os).length ≤ cs.length :=
  Nat.le_trans (List.length_filter_le _ _) (allOf_len cs at_)
theorem repo_le {r : Repo} (h : repoB r = true) : r.commits.length ≤ 16 := (repo_parts h).1
end Go.Vc
namespace Go.Vc
def logT (r : Repo) (at_ : Int) (P : Int → Bool) : List Int := if (repoB r && anyB r.commits.length [at_]) = true then ((allOf r.commits at_).filter P).reverse else []
theorem any_one {n : Nat} {x : Int} : anyB n [x] = withinB x 0 ((n : Int) - 1) := by simp [anyB]
theorem logT_len (r : Repo) (at_ : Int) (P : Int → Bool) : (logT r at_ P).length ≤ 16 := by
  unfold logT
  split
  · rename_i h
    rw [Bool.and_eq_true] at h
    have h1 := repo_le h.1
    have h2 := allOf_len r.commits at_
    have h3 := List.length_filter_le P (allOf r.commits at_)
    rw [List.length_reverse]
    omega
  · simp
end Go.Vc
namespace Go.Vc
/-- where a number is among others -/
def placeF : List Int → Nat → Int → Int
  | [], _, _ => -1
  | x :: r, k, p => if x = p then (k : Int) else placeF r (k + 1) p
def place (xs : List Int) (p : Int) : Int := placeF xs 0 p
theorem place_hit {xs : List Int} {p M : Int} {k : Nat} (H : M = placeF (xs.drop k) k p) (h : k < xs.length) (he : xs[k] = p) : M = (k : Int) := by
  rw [H, drop_cons xs k h, placeF, if_pos he]
theorem place_next {xs : List Int} {p M : Int} {k : Nat} (H : M = placeF (xs.drop k) k p) (h : k < xs.length) (he : ¬ xs[k] = p) : M = placeF (xs.drop (k + 1)) (k + 1) p := by
  rw [H, drop_cons xs k h, placeF, if_neg he]
theorem place_end {xs : List Int} {p M : Int} {k : Nat} (H : M = placeF (xs.drop k) k p) (h : ¬ k < xs.length) : M = -1 := by
  rw [H, drop_nil xs k h]; rfl
theorem placeF_le : ∀ (xs : List Int) (k : Nat) (p : Int), -1 ≤ placeF xs k p ∧ placeF xs k p < (k + xs.length : Nat)
  | [], k, p => by unfold placeF; omega
  | x :: r, k, p => by
    have ih := placeF_le r (k + 1) p
    unfold placeF
    split
    · simp only [List.length_cons]; omega
    · simp only [List.length_cons]; omega
theorem place_le (xs : List Int) (p : Int) : -1 ≤ place xs p ∧ place xs p < xs.length := by
  have := placeF_le xs 0 p
  unfold place
  omega
theorem placeF_at : ∀ (xs : List Int) (k i : Nat) (p : Int), (∀ (a b : Nat), a < b → b < xs.length → xs[a]? ≠ xs[b]?) → xs[i]? = some p → placeF xs k p = ((k + i : Nat) : Int)
  | [], k, i, p, _, h => by simp at h
  | x :: r, k, 0, p, _, h => by
    simp at h
    rw [placeF, if_pos h]; simp
  | x :: r, k, i + 1, p, hn, h => by
    have hi : i + 1 < (x :: r).length := (List.getElem?_eq_some_iff.1 h).1
    have hne : ¬ x = p := fun e => hn 0 (i + 1) (by omega) hi (by rw [h, ← e]; rfl)
    rw [placeF, if_neg hne, placeF_at r (k + 1) i p (fun a b hab hb => by
      have := hn (a + 1) (b + 1) (by omega) (by simpa using hb)
      simpa using this) (by simpa using h)]
    congr 1; omega
/-- one parent, as it is sent; none: it is neither -/
def sendP (list has : List Int) (p : Int) : Option Int := if 0 ≤ place list p then some (place list p) else if 0 ≤ place has p then some (-1 - place has p) else none
def sendPs (list has : List Int) : List Int → List Int → Option (List Int)
  | acc, [] => some acc
  | acc, p :: ps => match sendP list has p with
    | some q => sendPs list has (acc ++ [q]) ps
    | none => none
def sendG (cs : List Commit) (list has : List Int) : List Commit → List Int → Option (List Commit)
  | out, [] => some out
  | out, i :: is => match sendPs list has [] (cs.getD i.toNat noCommit).parents with
    | some ps => sendG cs list has (out ++ [⟨ps, (cs.getD i.toNat noCommit).who, (cs.getD i.toNat noCommit).tree⟩]) is
    | none => none
def sendO (r : Repo) (has : List Int) (at_ : Int) : Option (List Commit) := if suspB r has at_ = true then sendG r.commits (leftT r.commits at_ has) has [] (leftT r.commits at_ has) else none
def sendL (r : Repo) (has : List Int) (at_ : Int) : List Commit := (sendO r has at_).getD []
def sendB (r : Repo) (has : List Int) (at_ : Int) : Bool := (sendO r has at_).isSome
section
variable {list has acc ps : List Int} {M : Option (List Int)} {k : Nat}
theorem sendPs_end (H : M = sendPs list has acc (ps.drop k)) (h : ¬ k < ps.length) : M = some acc := by rw [H, drop_nil ps k h, sendPs]
theorem sendPs_in (H : M = sendPs list has acc (ps.drop k)) (h : k < ps.length) (h1 : 0 ≤ place list ps[k]) : M = sendPs list has (acc ++ [place list ps[k]]) (ps.drop (k + 1)) := by
  rw [H, drop_cons ps k h, sendPs, sendP, if_pos h1]
theorem sendPs_own (H : M = sendPs list has acc (ps.drop k)) (h : k < ps.length) (h1 : ¬ 0 ≤ place list ps[k]) (h2 : 0 ≤ place has ps[k]) : M = sendPs list has (acc ++ [-1 - place has ps[k]]) (ps.drop (k + 1)) := by
  rw [H, drop_cons ps k h, sendPs, sendP, if_neg h1, if_pos h2]
theorem sendPs_none (H : M = sendPs list has acc (ps.drop k)) (h : k < ps.length) (h1 : ¬ 0 ≤ place list ps[k]) (h2 : ¬ 0 ≤ place has ps[k]) : M = none := by
  rw [H, drop_cons ps k h, sendPs, sendP, if_neg h1, if_neg h2]
end
section
variable {cs out : List Commit} {list has is : List Int} {M : Option (List Commit)} {k : Nat}
theorem sendG_end (H : M = sendG cs list has out (is.drop k)) (h : ¬ k < is.length) : M = some out := by rw [H, drop_nil is k h, sendG]
theorem sendG_next (H : M = sendG cs list has out (is.drop k)) (h : k < is.length) {j : Nat} (hj : is[k] = (j : Int)) (hl : j < cs.length) {ps : List Int} (hp : sendPs list has [] cs[j].parents = some ps) : M = sendG cs list has (out ++ [⟨ps, cs[j].who, cs[j].tree⟩]) (is.drop (k + 1)) := by
  rw [H, drop_cons is k h, sendG, hj, Int.toNat_natCast, getD_com hl, hp]
theorem sendG_none (H : M = sendG cs list has out (is.drop k)) (h : k < is.length) {j : Nat} (hj : is[k] = (j : Int)) (hl : j < cs.length) (hp : sendPs list has [] cs[j].parents = none) : M = none := by
  rw [H, drop_cons is k h, sendG, hj, Int.toNat_natCast, getD_com hl, hp]
end
end Go.Vc
namespace Go.Vc
/-- marks of all from which branches come -/
def liveM (cs : List Commit) (ms : List Bool) (hs : List Head) : List Bool := hs.foldl (fun m h => onAll m (allOf cs h.at_)) ms
theorem liveM_cons (cs : List Commit) (ms : List Bool) (h : Head) (hs : List Head) : liveM cs ms (h :: hs) = liveM cs (onAll ms (allOf cs h.at_)) hs := rfl
theorem liveM_len (cs : List Commit) : ∀ (hs : List Head) (ms : List Bool), (liveM cs ms hs).length = ms.length
  | [], _ => rfl
  | h :: hs, ms => by rw [liveM_cons, liveM_len cs hs, onAll_len]
theorem liveM_next {cs : List Commit} {ms M : List Bool} {hs : List Head} {k : Nat} (H : M = liveM cs ms (hs.drop k)) (h : k < hs.length) : M = liveM cs (onAll ms (allOf cs hs[k].at_)) (hs.drop (k + 1)) := by rw [H, drop_cons hs k h, liveM_cons]
theorem liveM_end {cs : List Commit} {ms M : List Bool} {hs : List Head} {k : Nat} (H : M = liveM cs ms (hs.drop k)) (h : ¬ k < hs.length) : M = ms := by rw [H, drop_nil hs k h]; rfl
def liveB (r : Repo) : List Bool := liveM r.commits (List.replicate r.commits.length false) r.heads
theorem liveB_len (r : Repo) : (liveB r).length = r.commits.length := by unfold liveB; rw [liveM_len]; simp
def liveT (r : Repo) : List Int := idxs (liveB r) 0
theorem liveT_len (r : Repo) : (liveT r).length ≤ r.commits.length := by
  have := idxs_len (liveB r) 0
  rw [liveB_len] at this
  exact this
theorem liveT_mem {r : Repo} {x : Int} (h : x ∈ liveT r) : 0 ≤ x ∧ x < r.commits.length := by
  obtain ⟨i, hi, e, _⟩ := (idxs_mem _ _ _).1 h
  rw [liveB_len] at hi
  subst e
  omega
def keepLive (r : Repo) : List Int := if repoB r = true then liveT r else []
theorem keepLive_len (r : Repo) : (keepLive r).length ≤ 16 := by
  unfold keepLive
  split
  · rename_i h
    exact Nat.le_trans (liveT_len r) (repo_le h)
  · simp
theorem heads_at {r : Repo} (h : repoB r = true) {k : Nat} (hk : k < r.heads.length) : 0 ≤ r.heads[k].at_ ∧ r.heads[k].at_ < (r.commits.length : Int) := by
  have h1 := (repo_parts h).2.2
  unfold headsB headAll at h1
  rw [Bool.and_eq_true, decide_eq_true_eq, decide_eq_true_eq] at h1
  have h2 := h1.2 k hk
  unfold headAt at h2
  rw [getD_hd hk] at h2
  simp only [Bool.and_eq_true, withinB, decide_eq_true_eq] at h2
  omega
theorem all_onAll {cs : List Commit} {at_ : Int} {m : Nat} (h : m < (allOf cs at_).length) : ∃ p : Nat, (allOf cs at_)[m] = (p : Int) ∧ p < cs.length := by
  have := allOf_mem (cs := cs) (at_ := at_) (List.getElem_mem h)
  exact ⟨_, (Int.toNat_of_nonneg this.1).symm, by omega⟩
end Go.Vc
namespace Go.Vc
theorem onAll_at : ∀ (ps : List Int) (ms : List Bool) (i : Nat), (∀ p, p ∈ ps → 0 ≤ p) → (onAll ms ps)[i]? = if (i : Int) ∈ ps then (ms[i]?).map (fun _ => true) else ms[i]?
  | [], ms, i, _ => by simp [onAll]
  | p :: ps, ms, i, h => by
    rw [onAll_cons, onAll_at ps _ i fun q hq => h q (List.mem_cons_of_mem _ hq)]
    have hp := h p (List.mem_cons_self ..)
    by_cases e : (i : Int) = p
    · have hi : p.toNat = i := by omega
      have hm : (i : Int) ∈ p :: ps := by rw [e]; exact List.mem_cons_self ..
      rw [if_pos hm, hi]
      by_cases hl : i < ms.length
      · have h1 : (ms.set i true)[i]? = some true := by simp [hl]
        have h2 : ms[i]? = some ms[i] := List.getElem?_eq_getElem hl
        rw [h1, h2]
        split <;> rfl
      · have h1 : (ms.set i true)[i]? = none := by simp; omega
        have h2 : ms[i]? = none := by simp; omega
        rw [h1, h2]
        split <;> rfl
    · have hi : ¬ p.toNat = i := by omega
      rw [List.getElem?_set_ne hi]
      have hm : (i : Int) ∈ p :: ps ↔ (i : Int) ∈ ps := by simp [e]
      by_cases h3 : (i : Int) ∈ ps
      · rw [if_pos h3, if_pos (hm.2 h3)]
      · rw [if_neg h3, if_neg (fun h => h3 (hm.1 h))]
theorem onAll_true {ps : List Int} {ms : List Bool} {i : Nat} (hp : ∀ p, p ∈ ps → 0 ≤ p) : (onAll ms ps)[i]? = some true ↔ ms[i]? = some true ∨ ((i : Int) ∈ ps ∧ i < ms.length) := by
  rw [onAll_at ps ms i hp]
  by_cases h : (i : Int) ∈ ps
  · rw [if_pos h]
    by_cases hl : i < ms.length
    · rw [List.getElem?_eq_getElem hl]; simp [h, hl]
    · have h2 : ms[i]? = none := by simp; omega
      rw [h2]; simp [hl]
  · rw [if_neg h]; simp [h]
section
variable {cs : List Commit}
theorem par_ge (hP : parOk cs) {k : Nat} (hk : k < cs.length) : ∀ p, p ∈ (cs.getD k noCommit).parents → 0 ≤ p ∧ p < (k : Int) := by
  intro p hp
  rw [getD_com hk] at hp
  obtain ⟨j, hj, rfl⟩ := List.getElem_of_mem hp
  exact hP k hk j hj
theorem ancStep_high (hP : parOk cs) {k i : Nat} (hk : k < cs.length) (hi : k ≤ i) (ms : List Bool) : (ancStep cs k ms)[i]? = ms[i]? := by
  unfold ancStep
  split
  · rw [onAll_at _ _ _ fun p hp => (par_ge hP hk p hp).1, if_neg fun h => by have := (par_ge hP hk _ h).2; omega]
  · rfl
theorem ancD_high (hP : parOk cs) : ∀ (k : Nat) (ms : List Bool) (i : Nat), k ≤ cs.length → k ≤ i → (ancD cs k ms)[i]? = ms[i]?
  | 0, _, _, _, _ => rfl
  | k + 1, ms, i, hk, hi => by rw [ancD, ancD_high hP k _ i (by omega) (by omega), ancStep_high hP (by omega) (by omega)]
theorem ancStep_mono (hP : parOk cs) {k i : Nat} (hk : k < cs.length) {ms : List Bool} (h : ms[i]? = some true) : (ancStep cs k ms)[i]? = some true := by
  unfold ancStep
  split
  · exact (onAll_true fun p hp => (par_ge hP hk p hp).1).2 (.inl h)
  · exact h
theorem ancD_mono (hP : parOk cs) : ∀ (k : Nat) (ms : List Bool) (i : Nat), k ≤ cs.length → ms[i]? = some true → (ancD cs k ms)[i]? = some true
  | 0, _, _, _, h => h
  | k + 1, ms, i, hk, h => by rw [ancD]; exact ancD_mono hP k _ i (by omega) (ancStep_mono hP (by omega) h)
theorem ancD_par (hP : parOk cs) : ∀ (k : Nat) (ms : List Bool), k ≤ cs.length → ms.length = cs.length → ∀ (i : Nat), i < k → (ancD cs k ms)[i]? = some true → ∀ p, p ∈ (cs.getD i noCommit).parents → (ancD cs k ms)[p.toNat]? = some true
  | 0, _, _, _, i, hi, _ => by omega
  | k + 1, ms, hk, hl, i, hi, h => by
    intro p hp
    rw [ancD] at h ⊢
    by_cases e : i = k
    · subst e
      rw [ancD_high hP i _ i (by omega) (Nat.le_refl _), ancStep_high hP (by omega) (Nat.le_refl _)] at h
      have hb : ms.getD i false = true := by simp [List.getD, h]
      have hpg := par_ge hP (by omega : i < cs.length) p hp
      refine ancD_mono hP i _ _ (by omega) ?_
      unfold ancStep
      rw [if_pos hb]
      exact (onAll_true fun p hp => (par_ge hP (by omega) p hp).1).2 (.inr ⟨by rw [Int.toNat_of_nonneg hpg.1]; exact hp, by omega⟩)
    · exact ancD_par hP k _ (by omega) (by rw [ancStep_len]; exact hl) i (by omega) h p hp
theorem idxs_iff (ms : List Bool) (x : Int) : x ∈ idxs ms 0 ↔ 0 ≤ x ∧ ms[x.toNat]? = some true := by
  rw [idxs_mem]
  constructor
  · rintro ⟨i, h, rfl, hb⟩
    refine ⟨by omega, ?_⟩
    rw [Nat.zero_add, Int.toNat_natCast, List.getElem?_eq_getElem h, hb]
  · rintro ⟨h0, h⟩
    obtain ⟨hl, hb⟩ := List.getElem?_eq_some_iff.1 h
    exact ⟨x.toNat, hl, by omega, hb⟩
theorem all_par (hP : parOk cs) {at_ x p : Int} (hat : 0 ≤ at_ ∧ at_ < (cs.length : Int)) (hx : x ∈ allOf cs at_) (hp : p ∈ (cs.getD x.toNat noCommit).parents) : p ∈ allOf cs at_ := by
  unfold allOf at hx ⊢
  rw [idxs_iff] at hx ⊢
  have hxl : x.toNat < cs.length := by
    have := (List.getElem?_eq_some_iff.1 hx.2).1
    rwa [anc_len] at this
  have hpg := par_ge hP hxl p hp
  refine ⟨hpg.1, ?_⟩
  unfold anc at hx ⊢
  have hxk : x.toNat < at_.toNat + 1 := by
    by_cases h : x.toNat < at_.toNat + 1
    · exact h
    · have h2 := hx.2
      rw [ancD_high hP _ _ _ (by omega) (by omega), List.getElem?_set_ne (by omega), List.getElem?_replicate] at h2
      split at h2 <;> simp at h2
  exact ancD_par hP _ _ (by omega) (by simp) x.toNat hxk hx.2 p hp
theorem all_self (hP : parOk cs) {at_ : Int} (hat : 0 ≤ at_ ∧ at_ < (cs.length : Int)) : at_ ∈ allOf cs at_ := by
  unfold allOf
  rw [idxs_iff]
  refine ⟨hat.1, ?_⟩
  unfold anc
  refine ancD_mono hP _ _ _ (by omega) ?_
  rw [List.getElem?_set_self (by simp; omega)]
theorem liveM_iff : ∀ (hs : List Head) (ms : List Bool) (i : Nat), (liveM cs ms hs)[i]? = some true ↔ ms[i]? = some true ∨ (i < ms.length ∧ ∃ h, h ∈ hs ∧ (i : Int) ∈ allOf cs h.at_)
  | [], ms, i => by simp [liveM]
  | h :: hs, ms, i => by
    rw [liveM_cons, liveM_iff hs _ i, onAll_true fun p hp => (allOf_mem hp).1, onAll_len]
    constructor
    · rintro ((h1 | ⟨h1, h2⟩) | ⟨h1, g, hg, h2⟩)
      · exact .inl h1
      · exact .inr ⟨h2, h, List.mem_cons_self .., h1⟩
      · exact .inr ⟨h1, g, List.mem_cons_of_mem _ hg, h2⟩
    · rintro (h1 | ⟨h1, g, hg, h2⟩)
      · exact .inl (.inl h1)
      · rcases List.mem_cons.1 hg with rfl | hg
        · exact .inl (.inr ⟨h2, h1⟩)
        · exact .inr ⟨h1, g, hg, h2⟩
end
theorem live_iff (r : Repo) (x : Int) : x ∈ liveT r ↔ 0 ≤ x ∧ x < r.commits.length ∧ ∃ h, h ∈ r.heads ∧ x ∈ allOf r.commits h.at_ := by
  unfold liveT
  rw [idxs_iff]
  unfold liveB
  rw [liveM_iff, List.getElem?_replicate]
  constructor
  · rintro ⟨h0, h1 | ⟨h1, h, hh, h2⟩⟩
    · split at h1 <;> simp at h1
    · rw [Int.toNat_of_nonneg h0] at h2
      exact ⟨h0, by simp at h1; omega, h, hh, h2⟩
  · rintro ⟨h0, h1, h, hh, h2⟩
    refine ⟨h0, .inr ⟨by simp; omega, h, hh, by rw [Int.toNat_of_nonneg h0]; exact h2⟩⟩
theorem heads_in {r : Repo} (h : repoB r = true) {g : Head} (hg : g ∈ r.heads) : 0 ≤ g.at_ ∧ g.at_ < (r.commits.length : Int) := by
  obtain ⟨k, hk, rfl⟩ := List.getElem_of_mem hg
  exact heads_at h hk
theorem live_par {r : Repo} (h : repoB r = true) {x p : Int} (hx : x ∈ liveT r) (hp : p ∈ (r.commits.getD x.toNat noCommit).parents) : p ∈ liveT r := by
  rw [live_iff] at hx ⊢
  obtain ⟨h0, h1, g, hg, h2⟩ := hx
  have h3 := all_par (repo_par h) (heads_in h hg) h2 hp
  have h4 := allOf_mem h3
  exact ⟨h4.1, h4.2, g, hg, h3⟩
theorem live_head {r : Repo} (h : repoB r = true) {g : Head} (hg : g ∈ r.heads) : g.at_ ∈ liveT r := by
  rw [live_iff]
  have h1 := heads_in h hg
  exact ⟨h1.1, h1.2, g, hg, all_self (repo_par h) h1⟩
theorem idxs_ge : ∀ (ms : List Bool) (k : Nat) (x : Int), x ∈ idxs ms k → (k : Int) ≤ x := by
  intro ms k x hx
  obtain ⟨i, _, rfl, _⟩ := (idxs_mem ms k x).1 hx
  omega
theorem idxs_asc : ∀ (ms : List Bool) (k : Nat), (idxs ms k).Pairwise (· < ·)
  | [], _ => List.Pairwise.nil
  | b :: r, k => by
    rw [idxs]
    split
    · exact List.Pairwise.cons (fun x hx => by have := idxs_ge r (k + 1) x hx; omega) (idxs_asc r (k + 1))
    · exact idxs_asc r (k + 1)
/-- the numbers that are given to the first m of these -/
def numsOk (live nums : List Int) (m : Nat) : Prop := ∀ j, j < m → ∀ x : Int, live[j]? = some x → nums[x.toNat]? = some (j : Int)
theorem asc_at {live : List Int} (h : live.Pairwise (· < ·)) {a b : Nat} (hab : a < b) {x y : Int} (hx : live[a]? = some x) (hy : live[b]? = some y) : x < y := by
  obtain ⟨ha, rfl⟩ := List.getElem?_eq_some_iff.1 hx
  obtain ⟨hb, rfl⟩ := List.getElem?_eq_some_iff.1 hy
  exact List.pairwise_iff_getElem.1 h a b ha hb hab
theorem asc_ne {live : List Int} (h : live.Pairwise (· < ·)) : ∀ (a b : Nat), a < b → b < live.length → live[a]? ≠ live[b]? := fun a b hab hb e => by
  have h1 := asc_at h hab (List.getElem?_eq_getElem (by omega)) (List.getElem?_eq_getElem hb)
  rw [List.getElem?_eq_getElem (by omega), List.getElem?_eq_getElem hb] at e
  have := Option.some.inj e
  omega
theorem nums_next {live nums : List Int} {m : Nat} (h : numsOk live nums m) (ha : live.Pairwise (· < ·)) (h0 : ∀ x, x ∈ live → 0 ≤ x) {x : Int} (hx : live[m]? = some x) (hl : x.toNat < nums.length) : numsOk live (nums.set x.toNat (m : Int)) (m + 1) := by
  intro j hj y hy
  have hx0 := h0 x (List.mem_of_getElem? hx)
  have hy0 := h0 y (List.mem_of_getElem? hy)
  by_cases e : j = m
  · subst e
    rw [hx] at hy
    obtain rfl := Option.some.inj hy
    rw [List.getElem?_set_self hl]
  · have hlt := asc_at ha (by omega : j < m) hy hx
    rw [List.getElem?_set_ne (by omega)]
    exact h j (by omega) y hy
theorem nums_at {live nums : List Int} {m : Nat} (h : numsOk live nums m) (ha : live.Pairwise (· < ·)) {p : Int} (hp : p ∈ live) (hm : ∀ x, live[m]? = some x → p < x) (hml : m ≤ live.length) : nums[p.toNat]? = some (place live p) := by
  obtain ⟨j, hj, rfl⟩ := List.getElem_of_mem hp
  have hjm : j < m := by
    by_cases e : j < m
    · exact e
    · have h1 := hm (live[m]'(by omega)) (List.getElem?_eq_getElem (by omega))
      by_cases e2 : j = m
      · subst e2; omega
      · have := asc_at ha (by omega : m < j) (List.getElem?_eq_getElem (by omega)) (List.getElem?_eq_getElem hj)
        omega
  rw [h j hjm _ (List.getElem?_eq_getElem hj)]
  unfold place
  rw [placeF_at live 0 j _ (asc_ne ha) (List.getElem?_eq_getElem hj), Nat.zero_add]
def onlyC (live : List Int) (c : Commit) : Commit := ⟨c.parents.map (place live), c.who, c.tree⟩
def onlyH (live : List Int) (h : Head) : Head := ⟨h.name, place live h.at_⟩
def onlyCs (r : Repo) : List Commit := (liveT r).map fun i => onlyC (liveT r) (r.commits.getD i.toNat noCommit)
def onlyHs (r : Repo) : List Head := r.heads.map (onlyH (liveT r))
def keepOnly (r : Repo) : Repo := if repoB r = true then ⟨onlyCs r, onlyHs r⟩ else ⟨[], []⟩
theorem map_next {α β : Type} {f : α → β} {M ol : List β} {xs : List α} {k : Nat} (H : M = ol ++ (xs.drop k).map f) (h : k < xs.length) : M = (ol ++ [f xs[k]]) ++ (xs.drop (k + 1)).map f := by
  rw [H, drop_cons xs k h, List.map_cons, List.append_assoc]; rfl
theorem map_end {α β : Type} {f : α → β} {M ol : List β} {xs : List α} {k : Nat} (H : M = ol ++ (xs.drop k).map f) (h : ¬ k < xs.length) : M = ol := by
  rw [H, drop_nil xs k h, List.map_nil, List.append_nil]
end Go.Vc
