/-
  Plain functions: the commits since the one that wrote a line. No program is in sight here.
-/
import Derived.Test.YthhmaclhggmneaaGreatDoorPlBlame
import Derived.Test.YthhmaclhggmneaaGreatDoorPlSend
import Derived.Test.YthhmaclhggmneaaGreatDoorVPL
set_option linter.unusedVariables false
namespace Go.Vc
/-- a commit, its first parent, and so on -/
def lineF (cs : List Commit) : Nat → Int → List Int
  | 0, _ => []
  | n + 1, at_ => at_ :: match (cs.getD at_.toNat noCommit).parents with
    | [] => []
    | p :: _ => lineF cs n p
/-- up to the first that is v -/
def takeTo (v : Int) : List Int → List Int
  | [] => []
  | x :: r => if x = v then [x] else x :: takeTo v r
theorem takeTo_place (v : Int) : ∀ (xs : List Int) (k : Nat), 0 ≤ placeF xs k v → takeTo v xs = xs.take ((placeF xs k v).toNat + 1 - k) ∧ (k : Int) ≤ placeF xs k v
  | [], k, h => by simp [placeF] at h
  | x :: r, k, h => by
    rw [placeF] at h ⊢
    rw [takeTo]
    by_cases e : x = v
    · rw [if_pos e] at h
      rw [if_pos e, if_pos e]
      refine ⟨?_, Int.le_refl _⟩
      rw [Int.toNat_natCast, show k + 1 - k = 1 by omega]; simp
    · rw [if_neg e] at h
      rw [if_neg e, if_neg e]
      obtain ⟨h1, h2⟩ := takeTo_place v r (k + 1) h
      refine ⟨?_, by omega⟩
      rw [h1, show (placeF r (k + 1) v).toNat + 1 - k = ((placeF r (k + 1) v).toNat + 1 - (k + 1)) + 1 by omega, List.take_succ_cons]
theorem putB_at (before : List Int) : ∀ (ms out : List Int) (i x : Nat) (v : Int), (putB before out ms i)[x]? = some v → out[x]? = some v ∨ ∃ j, ms[j]? = some (x : Int) ∧ v = before.getD (i + j) 0
  | [], out, i, x, v, h => .inl h
  | m :: ms, out, i, x, v, h => by
    rw [putB] at h
    rcases putB_at before ms _ (i + 1) x v h with h | ⟨j, h1, h2⟩
    · by_cases hm : 0 ≤ m
      · rw [if_pos hm] at h
        by_cases e : m.toNat = x
        · have hl : x < out.length := by
            have := (List.getElem?_eq_some_iff.1 h).1
            simpa using this
          rw [e, List.getElem?_set_self hl] at h
          exact .inr ⟨0, by simp; omega, by rw [Nat.add_zero]; exact (Option.some.inj h).symm⟩
        · rw [List.getElem?_set_ne e] at h
          exact .inl h
      · rw [if_neg hm] at h
        exact .inl h
    · exact .inr ⟨j + 1, by simpa using h1, by rw [h2]; congr 1; omega⟩
theorem incM_ge {hi : Nat} : ∀ {ms : List Int} {lo : Nat} {i x : Nat}, incM hi lo ms → ms[i]? = some (x : Int) → lo ≤ x
  | [], _, _, _, _, h => by simp at h
  | m :: ms, lo, 0, x, hm, h => by
    simp at h
    subst h
    rcases incM_at (ms := (x : Int) :: ms) (k := 0) hm (by simp) with ⟨h1, _⟩ | ⟨n, h1, h2, _⟩
    · simp at h1 <;> omega
    · simp at h1 <;> omega
  | m :: ms, lo, i + 1, x, hm, h => by
    rcases incM_at (ms := m :: ms) (k := 0) hm (by simp) with ⟨_, h2⟩ | ⟨n, _, h2, _, h4⟩
    · exact incM_ge (i := i) (by simpa using h2) (by simpa using h)
    · have := incM_ge (i := i) (ms := ms) (by simpa using h4) (by simpa using h)
      omega
theorem incM_uniq {hi : Nat} : ∀ {ms : List Int} {lo : Nat} {i j x : Nat}, incM hi lo ms → ms[i]? = some (x : Int) → ms[j]? = some (x : Int) → i = j
  | [], _, _, _, _, _, h, _ => by simp at h
  | m :: ms, lo, 0, 0, x, _, _, _ => rfl
  | m :: ms, lo, 0, j + 1, x, hm, h, h' => by
    simp at h
    subst h
    rcases incM_at (ms := (x : Int) :: ms) (k := 0) hm (by simp) with ⟨h1, _⟩ | ⟨n, h1, h2, _, h4⟩
    · simp at h1 <;> omega
    · have := incM_ge (i := j) (ms := ms) (by simpa using h4) (by simpa using h')
      simp at h1; omega
  | m :: ms, lo, i + 1, 0, x, hm, h, h' => (incM_uniq (i := 0) (j := i + 1) hm h' h).symm
  | m :: ms, lo, i + 1, j + 1, x, hm, h, h' => by
    have hms : ∃ lo', incM hi lo' ms := by
      rcases incM_at (ms := m :: ms) (k := 0) hm (by simp) with ⟨_, h2⟩ | ⟨n, _, _, _, h4⟩
      · exact ⟨_, by simpa using h2⟩
      · exact ⟨_, by simpa using h4⟩
    obtain ⟨lo', hm'⟩ := hms
    have := incM_uniq (i := i) (j := j) hm' (by simpa using h) (by simpa using h')
    omega
/-- a line that is older than a commit is one of its first parent's -/
theorem blame_step {cs : List Commit} {path : ByteArray} {n : Nat} {at_ : Int} {l : List Int} {x : Nat} {v : Int} (hb : blameF cs path (n + 2) at_ = some l) (hx : l[x]? = some v) (hv : ¬ v = at_) :
    ∃ (p : Int) (ps : List Int) (text old : List ByteArray) (l' : List Int) (j : Nat), (cs.getD at_.toNat noCommit).parents = p :: ps ∧ getT (treeAtC cs at_) path = some text ∧ getT (treeAtC cs p) path = some old ∧ blameF cs path (n + 1) p = some l' ∧ (matchT old text)[j]? = some (x : Int) ∧ l'[j]? = some v ∧ (∀ i, (matchT old text)[i]? = some (x : Int) → i = j) := by
  have hrep : ∀ k : Nat, (List.replicate k at_)[x]? = some v → False := fun k h => by
    rw [List.getElem?_replicate] at h
    split at h
    · exact hv (Option.some.inj h).symm
    · cases h
  cases ht : getT (treeAtC cs at_) path with
  | none => rw [blame_none ht] at hb; cases hb
  | some text =>
    cases hp : (cs.getD at_.toNat noCommit).parents with
    | nil =>
      rw [blame_root ht hp] at hb
      rw [← Option.some.inj hb] at hx
      exact (hrep _ hx).elim
    | cons p ps =>
      cases ho : getT (treeAtC cs p) path with
      | none =>
        rw [blame_new ht hp ho] at hb
        rw [← Option.some.inj hb] at hx
        exact (hrep _ hx).elim
      | some old =>
        rw [blame_old ht hp ho] at hb
        rw [← Option.some.inj hb] at hx
        obtain ⟨l', hl', hln⟩ := blame_some (n := n) ho
        rw [hl'] at hx
        rcases putB_at _ _ _ _ _ _ hx with h | ⟨j, h1, h2⟩
        · exact (hrep _ h).elim
        · refine ⟨p, ps, text, old, l', j, rfl, rfl, ho, hl', h1, ?_, fun i hi => incM_uniq (mt_inc text old 0) hi h1⟩
          have hj : j < l'.length := by
            have := (List.getElem?_eq_some_iff.1 h1).1
            rw [matchT_len] at this
            omega
          rw [h2, Option.getD_some, Nat.zero_add]
          simp [List.getD, hj]
theorem line_root {cs : List Commit} {n : Nat} {at_ : Int} (h : (cs.getD at_.toNat noCommit).parents = []) : lineF cs (n + 1) at_ = [at_] := by rw [lineF, h]
theorem line_step {cs : List Commit} {n : Nat} {at_ p : Int} {ps : List Int} (h : (cs.getD at_.toNat noCommit).parents = p :: ps) : lineF cs (n + 1) at_ = at_ :: lineF cs n p := by rw [lineF, h]
theorem par_first {cs : List Commit} (hP : parOk cs) {at_ p : Int} {ps : List Int} (h0 : 0 ≤ at_) (hl : at_ < (cs.length : Int)) (h : (cs.getD at_.toNat noCommit).parents = p :: ps) : 0 ≤ p ∧ p < at_ := by
  have hk : at_.toNat < cs.length := by omega
  rw [getD_com hk] at h
  have := hP at_.toNat hk 0 (by rw [h]; simp)
  simp only [h, List.getElem_cons_zero] at this
  omega
theorem blame_fuel {cs : List Commit} (hP : parOk cs) {path : ByteArray} : ∀ (n m : Nat) (at_ : Int), 0 ≤ at_ → at_ < (cs.length : Int) → at_ < (n : Int) → at_ < (m : Int) → blameF cs path n at_ = blameF cs path m at_
  | 0, _, at_, h0, _, h1, _ => by omega
  | _, 0, at_, h0, _, _, h1 => by omega
  | n + 1, m + 1, at_, h0, hl, h1, h2 => by
    cases ht : getT (treeAtC cs at_) path with
    | none => rw [blame_none ht, blame_none ht]
    | some text =>
      cases hp : (cs.getD at_.toNat noCommit).parents with
      | nil => rw [blame_root ht hp, blame_root ht hp]
      | cons p ps =>
        cases ho : getT (treeAtC cs p) path with
        | none => rw [blame_new ht hp ho, blame_new ht hp ho]
        | some old =>
          have h3 := par_first hP h0 hl hp
          rw [blame_old ht hp ho, blame_old ht hp ho, blame_fuel hP n m p (by omega) (by omega) (by omega) (by omega)]
theorem blame_on {cs : List Commit} (hP : parOk cs) {path : ByteArray} : ∀ (n : Nat) (at_ : Int) (l : List Int) (x : Nat) (v : Int), 0 ≤ at_ → at_ < (cs.length : Int) → at_ < (n : Int) → blameF cs path n at_ = some l → l[x]? = some v → v ∈ lineF cs n at_
  | 0, at_, _, _, _, h0, _, h1, _, _ => by omega
  | n + 1, at_, l, x, v, h0, hl, h1, hb, hx => by
    by_cases hv : v = at_
    · rw [lineF, hv]; exact List.mem_cons_self ..
    · have hb2 : blameF cs path (n + 2) at_ = some l := by rw [← hb]; exact blame_fuel hP _ _ at_ h0 hl (by omega) h1
      obtain ⟨p, ps, text, old, l', j, hp, ht, ho, hl', h4, h5, _⟩ := blame_step hb2 hx hv
      have h3 := par_first hP h0 hl hp
      rw [line_step hp]
      refine List.mem_cons_of_mem _ ?_
      have hb3 : blameF cs path n p = some l' := by rw [← hl']; exact blame_fuel hP _ _ p h3.1 (by omega) (by omega) (by omega)
      exact blame_on hP n p l' j v h3.1 (by omega) (by omega) hb3 h5
theorem placeF_mem {v : Int} : ∀ {xs : List Int} {k : Nat}, v ∈ xs → 0 ≤ placeF xs k v
  | x :: r, k, h => by
    rw [placeF]
    split
    · omega
    · rename_i hne
      rcases List.mem_cons.1 h with rfl | h
      · exact absurd rfl hne
      · exact placeF_mem h
theorem takeTo_hit {v : Int} {r : List Int} : takeTo v (v :: r) = [v] := by rw [takeTo, if_pos rfl]
theorem takeTo_step {v x : Int} {r : List Int} (h : ¬ x = v) : takeTo v (x :: r) = x :: takeTo v r := by rw [takeTo, if_neg h]
theorem lineF_len (cs : List Commit) : ∀ (n : Nat) (at_ : Int), (lineF cs n at_).length ≤ n
  | 0, _ => by simp [lineF]
  | n + 1, at_ => by
    rw [lineF]
    split
    · simp
    · have := lineF_len cs n; simp [this]
theorem repo_treeC {r : Repo} (h : repoB r = true) {i : Int} (h0 : 0 ≤ i) (hi : i < (r.commits.length : Int)) : treeB (treeAtC r.commits i) = true := by
  have hl : i.toNat < r.commits.length := by omega
  unfold treeAtC
  rw [getD_com hl]
  exact repo_tree h hl
theorem blameF_len {r : Repo} (h : repoB r = true) {n : Nat} {path : ByteArray} {at_ : Int} (h0 : 0 ≤ at_) (hi : at_ < (r.commits.length : Int)) : ((blameF r.commits path n at_).getD []).length ≤ 10 := by
  cases hb : blameF r.commits path n at_ with
  | none => simp
  | some l =>
    obtain ⟨t, h1, h2⟩ := blame_len hb
    have := textB_len (tree_text (repo_treeC h h0 hi) h1)
    simp; omega
theorem blameOf_len (r : Repo) (at_ : Int) (path : ByteArray) : (blameOf r at_ path).length ≤ 10 := by
  unfold blameOf
  split
  · rename_i h
    rw [Bool.and_eq_true] at h
    have h2 := any_at h.2 (k := 0) (by simp)
    exact blameF_len h.1 h2.1 h2.2
  · simp
def blineT (r : Repo) (at_ : Int) (path : ByteArray) (line : Int) : List Int :=
  if withinB line 0 (((blameOf r at_ path).length : Int) - 1) = true then takeTo ((blameOf r at_ path).getD line.toNat 0) (lineF r.commits r.commits.length at_) else []
theorem takeTo_len (v : Int) : ∀ (xs : List Int), (takeTo v xs).length ≤ xs.length
  | [] => by simp [takeTo]
  | x :: r => by
    rw [takeTo]
    have := takeTo_len v r
    split <;> simp <;> omega
theorem blineT_len (r : Repo) (at_ : Int) (path : ByteArray) (line : Int) : (blineT r at_ path line).length ≤ 16 := by
  unfold blineT
  split
  · rename_i h
    by_cases hok : (repoB r && anyB r.commits.length [at_]) = true
    · rw [Bool.and_eq_true] at hok
      have h1 := takeTo_len ((blameOf r at_ path).getD line.toNat 0) (lineF r.commits r.commits.length at_)
      have h2 := lineF_len r.commits r.commits.length at_
      have h3 := repo_le hok.1
      omega
    · unfold blameOf at h
      rw [if_neg hok] at h
      simp [withinB] at h
      omega
  · simp
end Go.Vc
