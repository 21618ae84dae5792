/-
  Plain functions: what is at a path, and whether a commit changes it. No program is in sight here. / Plain functions: what two texts have together, and which line of one is which of the other. No program is in sight here. / Plain functions: which commit wrote each line. No program is in sight here. / Plain functions: lines that refer to files. No program is in sight here. / Plain functions: all different texts of a repository. No program is in sight here. / Plain functions: which lines refer to files that are not there, and did not do so before. No program is in sight here. / Plain functions: what is read of a tree, and what is taken out of it. No program is in sight here. / Plain functions: a file put into a tree. No program is in sight here.
-/
import Derived.Test.YthddcfbjgcbioaaGreatDoorVPA
import Derived.Test.YthddcfbjgcbioaaGreatDoorVA
import Derived.Test.YthddcfbjgcbioaaGreatDoorLost0
set_option linter.unusedVariables false
namespace Go.Vc
def whoB (cs : List Commit) (who : ByteArray) (i : Int) : Bool := decide ((cs.getD i.toNat noCommit).who = who)
theorem rev_yes {α : Type} {P : α → Bool} {M ol ls : List α} {j : Nat} (H : M = ol ++ ((ls.take (j + 1)).filter P).reverse) (h : j < ls.length) (hp : P ls[j] = true) : M = (ol ++ [ls[j]]) ++ ((ls.take j).filter P).reverse := by
  rw [H, List.take_succ_eq_append_getElem h, List.filter_append, List.filter_cons_of_pos hp, List.filter_nil, List.reverse_append, List.append_assoc]; rfl
theorem rev_no {α : Type} {P : α → Bool} {M ol ls : List α} {j : Nat} (H : M = ol ++ ((ls.take (j + 1)).filter P).reverse) (h : j < ls.length) (hp : P ls[j] = false) : M = ol ++ ((ls.take j).filter P).reverse := by
  rw [H, List.take_succ_eq_append_getElem h, List.filter_append, List.filter_cons_of_neg (by rw [hp]; simp), List.filter_nil, List.append_nil]
theorem rev_end {α : Type} {P : α → Bool} {M ol ls : List α} (H : M = ol ++ ((ls.take 0).filter P).reverse) : M = ol := by
  rw [H]; simp
def isAtB (path p : ByteArray) : Bool := decide (p = path) || inB path p
def underT (t : List File) (path : ByteArray) : List File := t.filter fun f => isAtB path f.path
def treeAtC (cs : List Commit) (i : Int) : List File := (cs.getD i.toNat noCommit).tree
end Go.Vc
namespace Go.Vc

/-- how many lines two texts have together at most, in order -/
def lc : List ByteArray → List ByteArray → Nat
  | [], _ => 0
  | _ :: _, [] => 0
  | x :: aas, y :: bs => if x = y then lc aas bs + 1 else max (lc aas (y :: bs)) (lc (x :: aas) bs)
termination_by a b => a.length + b.length
theorem lc_nil (b : List ByteArray) : lc [] b = 0 := by rw [lc]
theorem lc_nil_r (a : List ByteArray) : lc a [] = 0 := by cases a <;> rw [lc]
theorem lc_eq {x y : ByteArray} (aas bs : List ByteArray) (h : x = y) : lc (x :: aas) (y :: bs) = lc aas bs + 1 := by rw [lc, if_pos h]
theorem lc_ne {x y : ByteArray} (aas bs : List ByteArray) (h : ¬ x = y) : lc (x :: aas) (y :: bs) = max (lc aas (y :: bs)) (lc (x :: aas) bs) := by rw [lc, if_neg h]
theorem lc_le (a b : List ByteArray) : lc a b ≤ a.length ∧ lc a b ≤ b.length := by
  induction a, b using lc.induct with
  | case1 b => simp [lc_nil]
  | case2 x aas => simp [lc_nil_r]
  | case3 aas y bs ih => rw [lc_eq _ _ rfl]; simp; omega
  | case4 x aas y bs h ih1 ih2 => rw [lc_ne _ _ h]; simp at *; omega
/-- what is at row i, column j -/
def lcAt (a b : List ByteArray) (i j : Nat) : Int := (lc (a.drop i) (b.drop j) : Int)
theorem lcAt_endA (a b : List ByteArray) (j : Nat) : lcAt a b a.length j = 0 := by unfold lcAt; rw [List.drop_length, lc_nil]; rfl
theorem lcAt_endB (a b : List ByteArray) (i : Nat) : lcAt a b i b.length = 0 := by unfold lcAt; rw [List.drop_length, lc_nil_r]; rfl
theorem lcAt_eq {a b : List ByteArray} {i j : Nat} (hi : i < a.length) (hj : j < b.length) (h : a[i] = b[j]) : lcAt a b i j = lcAt a b (i + 1) (j + 1) + 1 := by
  unfold lcAt
  rw [drop_cons a i hi, drop_cons b j hj, lc_eq _ _ h]; rfl
theorem lcAt_ne {a b : List ByteArray} {i j : Nat} (hi : i < a.length) (hj : j < b.length) (h : ¬ a[i] = b[j]) : lcAt a b i j = max (lcAt a b (i + 1) j) (lcAt a b i (j + 1)) := by
  unfold lcAt
  rw [drop_cons a i hi, drop_cons b j hj, lc_ne _ _ h, ← drop_cons a i hi, ← drop_cons b j hj]
  omega
theorem lcAt_ne' {a b : List ByteArray} {i j : Nat} (hi : i < a.length) (hj : j < b.length) (h : ¬ a[i] = b[j]) : lcAt a b i j = if lcAt a b (i + 1) j < lcAt a b i (j + 1) then lcAt a b i (j + 1) else lcAt a b (i + 1) j := by
  rw [lcAt_ne hi hj h]
  split <;> omega
theorem lcAt_le (a b : List ByteArray) (i j : Nat) : 0 ≤ lcAt a b i j ∧ lcAt a b i j ≤ a.length := by
  unfold lcAt
  have := (lc_le (a.drop i) (b.drop j)).1
  simp at this; omega

/-- a row of the table: all from column j on is there, or, of a row that is done, all -/
def rowS (a b : List ByteArray) (i j r : Nat) : List Int := (List.range (b.length + 1)).map fun c => if i ≤ r ∨ (r + 1 = i ∧ j ≤ c) then lcAt a b r c else 0
/-- the table: rows from i on are done, and of the one ahead all from column j on -/
def tabS (a b : List ByteArray) (i j : Nat) : List (List Int) := (List.range (a.length + 1)).map fun r => rowS a b i j r
theorem rowS_len (a b : List ByteArray) (i j r : Nat) : (rowS a b i j r).length = b.length + 1 := by simp [rowS]
theorem tabS_len (a b : List ByteArray) (i j : Nat) : (tabS a b i j).length = a.length + 1 := by simp [tabS]
theorem tabS_at (a b : List ByteArray) (i j r : Nat) (h : r < (tabS a b i j).length) : (tabS a b i j)[r] = rowS a b i j r := by simp [tabS]
theorem rowS_at (a b : List ByteArray) (i j r c : Nat) (h : c < (rowS a b i j r).length) : (rowS a b i j r)[c] = if i ≤ r ∨ (r + 1 = i ∧ j ≤ c) then lcAt a b r c else 0 := by simp [rowS]
theorem rowS_done {a b : List ByteArray} {i j r c : Nat} (h : c < (rowS a b i j r).length) (h1 : i ≤ r ∨ (r + 1 = i ∧ j ≤ c)) : (rowS a b i j r)[c] = lcAt a b r c := by rw [rowS_at, if_pos h1]
theorem rowS_same (a b : List ByteArray) (i j i' j' r : Nat) (h : ∀ c, c ≤ b.length → (if i ≤ r ∨ (r + 1 = i ∧ j ≤ c) then lcAt a b r c else 0) = (if i' ≤ r ∨ (r + 1 = i' ∧ j' ≤ c) then lcAt a b r c else 0)) : rowS a b i j r = rowS a b i' j' r := by
  unfold rowS
  refine List.map_congr_left fun c hc => h c ?_
  simp at hc; omega
theorem tabS_start (a b : List ByteArray) : tabS a b a.length b.length = List.replicate (a.length + 1) (List.replicate (b.length + 1) 0) := by
  unfold tabS
  refine List.ext_getElem (by simp) fun r h1 h2 => ?_
  simp only [List.getElem_map, List.getElem_range, List.getElem_replicate]
  unfold rowS
  refine List.ext_getElem (by simp) fun c h3 h4 => ?_
  simp only [List.getElem_map, List.getElem_range, List.getElem_replicate]
  simp at h1 h3
  split
  · rename_i h
    rcases h with h | ⟨h, h'⟩
    · obtain rfl : r = a.length := by omega
      exact lcAt_endA a b c
    · obtain rfl : c = b.length := by omega
      exact lcAt_endB a b r
  · rfl
theorem tabS_row (a b : List ByteArray) (i : Nat) : tabS a b (i + 1) 0 = tabS a b i b.length := by
  unfold tabS
  refine List.map_congr_left fun r hr => rowS_same a b _ _ _ _ r fun c hc => ?_
  simp at hr
  by_cases h1 : i ≤ r
  · rw [if_pos (by omega), if_pos (.inl h1)]
  · rw [if_neg (by omega)]
    split
    · rename_i h
      obtain rfl : c = b.length := by omega
      exact (lcAt_endB a b r).symm
    · rfl
theorem tabS_zero (a b : List ByteArray) (j : Nat) : tabS a b 0 j = tabS a b 0 0 := by
  unfold tabS
  refine List.map_congr_left fun r hr => rowS_same a b _ _ _ _ r fun c hc => ?_
  rw [if_pos (.inl (Nat.zero_le _)), if_pos (.inl (Nat.zero_le _))]
theorem tabS_set {a b : List ByteArray} {i j : Nat} (hi : i < a.length) (hj : j < b.length) :
    (tabS a b (i + 1) (j + 1)).set i ((rowS a b (i + 1) (j + 1) i).set j (lcAt a b i j)) = tabS a b (i + 1) j := by
  refine List.ext_getElem (by simp [tabS]) fun r h1 h2 => ?_
  rw [List.getElem_set, tabS_at, tabS_at]
  split
  · rename_i h
    subst h
    refine List.ext_getElem (by simp [rowS]) fun c h3 h4 => ?_
    rw [List.getElem_set, rowS_at, rowS_at]
    by_cases hc : j = c
    · subst hc
      rw [if_pos rfl, if_pos (by omega)]
    · rw [if_neg hc]
      by_cases h5 : j ≤ c
      · rw [if_pos (by omega), if_pos (by omega)]
      · rw [if_neg (by omega), if_neg (by omega)]
  · rename_i h
    refine rowS_same a b _ _ _ _ r fun c hc => ?_
    by_cases h5 : i + 1 ≤ r
    · rw [if_pos (.inl h5), if_pos (.inl h5)]
    · rw [if_neg (by omega), if_neg (by omega)]

/-- of each line of a text which of b's it is, from b's line j on; -1, if it is none -/
def mt (b : List ByteArray) (aas : List ByteArray) (j : Nat) : List Int :=
  match aas with
  | [] => []
  | x :: aas =>
    if h : j < b.length then
      if x = b[j] then (j : Int) :: mt b aas (j + 1)
      else if lc (x :: aas) (b.drop (j + 1)) ≤ lc aas (b.drop j) then -1 :: mt b aas j
      else mt b (x :: aas) (j + 1)
    else -1 :: mt b aas j
termination_by aas.length + (b.length - j)
def matchT (a b : List ByteArray) : List Int := mt b a 0
theorem mt_nil (b : List ByteArray) (j : Nat) : mt b [] j = [] := by rw [mt]
theorem mt_next {a b : List ByteArray} {i j : Nat} (hi : i < a.length) (hj : j < b.length) (e : a[i] = b[j]) : mt b (a.drop i) j = (j : Int) :: mt b (a.drop (i + 1)) (j + 1) := by
  rw [drop_cons a i hi, mt, dif_pos hj, if_pos e]
theorem mt_skip {a b : List ByteArray} {i j : Nat} (hi : i < a.length) (hj : j < b.length) (e : ¬ a[i] = b[j]) (h : lcAt a b i (j + 1) ≤ lcAt a b (i + 1) j) : mt b (a.drop i) j = -1 :: mt b (a.drop (i + 1)) j := by
  rw [drop_cons a i hi, mt, dif_pos hj, if_neg e, if_pos]
  unfold lcAt at h
  rw [drop_cons a i hi] at h
  omega
theorem mt_over {a b : List ByteArray} {i j : Nat} (hi : i < a.length) (hj : j < b.length) (e : ¬ a[i] = b[j]) (h : ¬ lcAt a b i (j + 1) ≤ lcAt a b (i + 1) j) : mt b (a.drop i) j = mt b (a.drop i) (j + 1) := by
  rw [drop_cons a i hi, mt, dif_pos hj, if_neg e, if_neg]
  unfold lcAt at h
  rw [drop_cons a i hi] at h
  omega
theorem mt_end {a b : List ByteArray} {i j : Nat} (hi : i < a.length) (hj : ¬ j < b.length) : mt b (a.drop i) j = -1 :: mt b (a.drop (i + 1)) j := by
  rw [drop_cons a i hi, mt, dif_neg hj]
theorem mtS_next {a b : List ByteArray} {i j : Nat} {M ol : List Int} (H : M = ol ++ mt b (a.drop i) j) (hi : i < a.length) (hj : j < b.length) (e : a[i] = b[j]) : M = (ol ++ [(j : Int)]) ++ mt b (a.drop (i + 1)) (j + 1) := by
  rw [H, mt_next hi hj e, List.append_assoc]; rfl
theorem mtS_skip {a b : List ByteArray} {i j : Nat} {M ol : List Int} (H : M = ol ++ mt b (a.drop i) j) (hi : i < a.length) (hj : j < b.length) (e : ¬ a[i] = b[j]) (h : lcAt a b i (j + 1) ≤ lcAt a b (i + 1) j) : M = (ol ++ [-1]) ++ mt b (a.drop (i + 1)) j := by
  rw [H, mt_skip hi hj e h, List.append_assoc]; rfl
theorem mtS_over {a b : List ByteArray} {i j : Nat} {M ol : List Int} (H : M = ol ++ mt b (a.drop i) j) (hi : i < a.length) (hj : j < b.length) (e : ¬ a[i] = b[j]) (h : ¬ lcAt a b i (j + 1) ≤ lcAt a b (i + 1) j) : M = ol ++ mt b (a.drop i) (j + 1) := by
  rw [H, mt_over hi hj e h]
theorem mtS_end {a b : List ByteArray} {i j : Nat} {M ol : List Int} (H : M = ol ++ mt b (a.drop i) j) (hi : i < a.length) (hj : ¬ j < b.length) : M = (ol ++ [-1]) ++ mt b (a.drop (i + 1)) j := by
  rw [H, mt_end hi hj, List.append_assoc]; rfl
theorem mtS_out {a b : List ByteArray} {i j : Nat} {M ol : List Int} (H : M = ol ++ mt b (a.drop i) j) (hi : ¬ i < a.length) : M = ol := by
  rw [H, drop_nil a i hi, mt_nil, List.append_nil]
theorem mt_len (b aas : List ByteArray) (j : Nat) : (mt b aas j).length = aas.length := by
  induction aas, j using mt.induct (b := b) with
  | case1 j => rw [mt_nil]; rfl
  | case2 j aas hj ih => rw [mt, dif_pos hj, if_pos rfl]; simp [ih]
  | case3 x j aas hj e h ih => rw [mt, dif_pos hj, if_neg e, if_pos h]; simp [ih]
  | case4 x j aas hj e h ih => rw [mt, dif_pos hj, if_neg e, if_neg h]; exact ih
  | case5 x j aas hj ih => rw [mt, dif_neg hj]; simp [ih]
theorem matchT_len (a b : List ByteArray) : (matchT a b).length = a.length := mt_len b a 0

/-- numbers from lo on that ascend below hi, and -1 between -/
def incM (hi : Nat) : Nat → List Int → Prop
  | _, [] => True
  | lo, m :: ms => (m = -1 ∧ incM hi lo ms) ∨ ∃ k : Nat, m = (k : Int) ∧ lo ≤ k ∧ k < hi ∧ incM hi (k + 1) ms
theorem incM_lo {hi : Nat} : ∀ {ms : List Int} {lo lo' : Nat}, lo' ≤ lo → incM hi lo ms → incM hi lo' ms
  | [], _, _, _, _ => trivial
  | m :: ms, lo, lo', h, .inl ⟨h1, h2⟩ => .inl ⟨h1, incM_lo h h2⟩
  | m :: ms, lo, lo', h, .inr ⟨k, h1, h2, h3, h4⟩ => .inr ⟨k, h1, by omega, h3, h4⟩
theorem incM_snoc {hi : Nat} : ∀ {ms : List Int} {lo : Nat}, lo ≤ hi → incM hi lo ms → incM (hi + 1) lo (ms ++ [(hi : Int)])
  | [], lo, h, _ => .inr ⟨hi, rfl, h, by omega, trivial⟩
  | m :: ms, lo, h, .inl ⟨h1, h2⟩ => .inl ⟨h1, incM_snoc h h2⟩
  | m :: ms, lo, h, .inr ⟨k, h1, h2, h3, h4⟩ => .inr ⟨k, h1, h2, by omega, incM_snoc (by omega) h4⟩
theorem mt_inc (b aas : List ByteArray) (j : Nat) : incM b.length j (mt b aas j) := by
  induction aas, j using mt.induct (b := b) with
  | case1 j => rw [mt_nil]; trivial
  | case2 j aas hj ih => rw [mt, dif_pos hj, if_pos rfl]; exact .inr ⟨j, rfl, Nat.le_refl _, hj, ih⟩
  | case3 x j aas hj e h ih => rw [mt, dif_pos hj, if_neg e, if_pos h]; exact .inl ⟨rfl, ih⟩
  | case4 x j aas hj e h ih => rw [mt, dif_pos hj, if_neg e, if_neg h]; exact incM_lo (by omega) ih
  | case5 x j aas hj ih => rw [mt, dif_neg hj]; exact .inl ⟨rfl, ih⟩
theorem matchT_inc (a b : List ByteArray) : incM (b.length + 1) 0 (matchT a b ++ [(b.length : Int)]) := incM_snoc (Nat.zero_le _) (mt_inc b a 0)
/-- the place k of such -/
theorem incM_at {hi lo : Nat} {ms : List Int} {k : Nat} (h : incM hi lo (ms.drop k)) (hk : k < ms.length) : (ms[k] = -1 ∧ incM hi lo (ms.drop (k + 1))) ∨ ∃ n : Nat, ms[k] = (n : Int) ∧ lo ≤ n ∧ n < hi ∧ incM hi (n + 1) (ms.drop (k + 1)) := by
  rw [drop_cons ms k hk] at h
  exact h
end Go.Vc
namespace Go.Vc
def getT : List File → ByteArray → Option (List ByteArray)
  | [], _ => none
  | f :: r, p => if f.path = p then some f.text else getT r p
theorem getT_hit {t : List File} {p : ByteArray} {k : Nat} {M : Option (List ByteArray)} (H : M = getT (t.drop k) p) (h : k < t.length) (he : t[k].path = p) : M = some t[k].text := by
  rw [H, drop_cons t k h, getT, if_pos he]
theorem getT_next {t : List File} {p : ByteArray} {k : Nat} {M : Option (List ByteArray)} (H : M = getT (t.drop k) p) (h : k < t.length) (he : ¬ t[k].path = p) : M = getT (t.drop (k + 1)) p := by
  rw [H, drop_cons t k h, getT, if_neg he]
theorem getT_end {t : List File} {p : ByteArray} {k : Nat} {M : Option (List ByteArray)} (H : M = getT (t.drop k) p) (h : ¬ k < t.length) : M = none := by
  rw [H, drop_nil t k h]; rfl
theorem getT_mem : ∀ {t : List File} {p : ByteArray} {x : List ByteArray}, getT t p = some x → ∃ f, f ∈ t ∧ f.path = p ∧ f.text = x
  | [], _, _, h => by simp [getT] at h
  | f :: r, p, x, h => by
    rw [getT] at h
    split at h
    · rename_i e
      exact ⟨f, List.mem_cons_self .., e, Option.some.inj h⟩
    · obtain ⟨g, hg, r'⟩ := getT_mem h
      exact ⟨g, List.mem_cons_of_mem _ hg, r'⟩
/-- lines that are matched are as they were -/
def putB (before : List Int) : List Int → List Int → Nat → List Int
  | out, [], _ => out
  | out, m :: ms, i => putB before (if 0 ≤ m then out.set m.toNat (before.getD i 0) else out) ms (i + 1)
theorem putB_len (before : List Int) : ∀ (ms out : List Int) (i : Nat), (putB before out ms i).length = out.length
  | [], _, _ => rfl
  | m :: ms, out, i => by
    rw [putB, putB_len before ms]
    split <;> simp
theorem putB_in {before out ms : List Int} {k : Nat} {M : List Int} (H : M = putB before out (ms.drop k) k) (h : k < ms.length) {n : Nat} (hn : ms[k] = (n : Int)) (hb : k < before.length) : M = putB before (out.set n before[k]) (ms.drop (k + 1)) (k + 1) := by
  rw [H, drop_cons ms k h, putB, hn, if_pos (by omega), Int.toNat_natCast]
  congr 2
  simp [List.getD, hb]
theorem putB_no {before out ms : List Int} {k : Nat} {M : List Int} (H : M = putB before out (ms.drop k) k) (h : k < ms.length) (hn : ms[k] = -1) : M = putB before out (ms.drop (k + 1)) (k + 1) := by
  rw [H, drop_cons ms k h, putB, hn, if_neg (by omega)]
theorem putB_end {before out ms : List Int} {k : Nat} {M : List Int} (H : M = putB before out (ms.drop k) k) (h : ¬ k < ms.length) : M = out := by
  rw [H, drop_nil ms k h, putB]
def blameF (cs : List Commit) (path : ByteArray) : Nat → Int → Option (List Int)
  | 0, _ => none
  | n + 1, at_ => match getT (treeAtC cs at_) path with
    | none => none
    | some text => match (cs.getD at_.toNat noCommit).parents with
      | [] => some (List.replicate text.length at_)
      | p :: _ => match getT (treeAtC cs p) path with
        | none => some (List.replicate text.length at_)
        | some old => some (putB ((blameF cs path n p).getD []) (List.replicate text.length at_) (matchT old text) 0)
section
variable {cs : List Commit} {path : ByteArray} {n : Nat} {at_ : Int} {text : List ByteArray}
theorem blame_none (h : getT (treeAtC cs at_) path = none) : blameF cs path (n + 1) at_ = none := by rw [blameF, h]
theorem blame_root (h : getT (treeAtC cs at_) path = some text) (h2 : (cs.getD at_.toNat noCommit).parents = []) : blameF cs path (n + 1) at_ = some (List.replicate text.length at_) := by
  rw [blameF, h, h2]
theorem blame_new {p : Int} {ps : List Int} (h : getT (treeAtC cs at_) path = some text) (h2 : (cs.getD at_.toNat noCommit).parents = p :: ps) (h3 : getT (treeAtC cs p) path = none) : blameF cs path (n + 1) at_ = some (List.replicate text.length at_) := by
  rw [blameF, h, h2]
  simp only [h3]
theorem blame_old {p : Int} {ps : List Int} {old : List ByteArray} (h : getT (treeAtC cs at_) path = some text) (h2 : (cs.getD at_.toNat noCommit).parents = p :: ps) (h3 : getT (treeAtC cs p) path = some old) : blameF cs path (n + 1) at_ = some (putB ((blameF cs path n p).getD []) (List.replicate text.length at_) (matchT old text) 0) := by
  rw [blameF, h, h2]
  simp only [h3]
theorem blame_len {l : List Int} (h : blameF cs path n at_ = some l) : ∃ t, getT (treeAtC cs at_) path = some t ∧ l.length = t.length := by
  cases n with
  | zero => simp [blameF] at h
  | succ n =>
    cases ht : getT (treeAtC cs at_) path with
    | none => rw [blame_none ht] at h; cases h
    | some text =>
      refine ⟨text, rfl, ?_⟩
      cases hp : (cs.getD at_.toNat noCommit).parents with
      | nil => rw [blame_root ht hp] at h; rw [← Option.some.inj h]; simp
      | cons p ps =>
        cases ho : getT (treeAtC cs p) path with
        | none => rw [blame_new ht hp ho] at h; rw [← Option.some.inj h]; simp
        | some old => rw [blame_old ht hp ho] at h; rw [← Option.some.inj h, putB_len]; simp
theorem blame_some (ht : getT (treeAtC cs at_) path = some text) : ∃ l, blameF cs path (n + 1) at_ = some l ∧ l.length = text.length := by
  cases hb : blameF cs path (n + 1) at_ with
  | none =>
    cases hp : (cs.getD at_.toNat noCommit).parents with
    | nil => rw [blame_root ht hp] at hb; cases hb
    | cons p ps =>
      cases ho : getT (treeAtC cs p) path with
      | none => rw [blame_new ht hp ho] at hb; cases hb
      | some old => rw [blame_old ht hp ho] at hb; cases hb
  | some l =>
    obtain ⟨t, h1, h2⟩ := blame_len hb
    rw [ht] at h1
    obtain rfl := Option.some.inj h1
    exact ⟨l, rfl, h2⟩
end
def blameOf (r : Repo) (at_ : Int) (path : ByteArray) : List Int := if (repoB r && anyB r.commits.length [at_]) = true then (blameF r.commits path r.commits.length at_).getD [] else []
theorem tree_text {t : List File} (h : treeB t = true) {p : ByteArray} {x : List ByteArray} (hx : getT t p = some x) : textB x = true := by
  obtain ⟨f, hf, _, rfl⟩ := getT_mem hx
  obtain ⟨k, hk, rfl⟩ := List.getElem_of_mem hf
  unfold treeB at h
  rw [Bool.and_eq_true] at h
  exact (treeAt_path hk (of_decide_eq_true h.2 k hk)).2
end Go.Vc
namespace Go.Vc
/-- 'see ' -/
def seeT : ByteArray := ⟨#[115, 101, 101, 32]⟩
/-- what a line refers to; nothing, if it refers to none -/
def refT (s : ByteArray) : ByteArray := if 4 < s.size ∧ s.extract 0 4 = seeT then s.extract 4 s.size else ⟨#[]⟩
theorem refT_yes {s : ByteArray} (h1 : 4 < s.size) (h2 : s.extract 0 4 = seeT) : refT s = s.extract 4 s.size := if_pos ⟨h1, h2⟩
theorem refT_short {s : ByteArray} (h1 : ¬ 4 < s.size) : refT s = ⟨#[]⟩ := if_neg fun h => h1 h.1
theorem refT_other {s : ByteArray} (h2 : ¬ s.extract 0 4 = seeT) : refT s = ⟨#[]⟩ := if_neg fun h => h2 h.2
theorem refT_size (s : ByteArray) : (refT s).size ≤ s.size := by
  unfold refT
  split
  · simp
  · exact Nat.zero_le _
theorem refT_ne {s : ByteArray} (h1 : 4 < s.size) : ¬ s.extract 4 s.size = ⟨#[]⟩ := fun e => by
  have := congrArg ByteArray.size e
  have h0 : (⟨#[]⟩ : ByteArray).size = 0 := rfl
  rw [h0] at this
  simp at this
  omega
theorem ref_nopfx {s : ByteArray} (h : pfxB seeT s = false) : refT s = ⟨#[]⟩ := by
  by_cases h1 : 4 < s.size
  · rw [pfxB_of (p := seeT) (by show 4 ≤ s.size; omega)] at h
    exact refT_other (of_decide_eq_false h)
  · exact refT_short h1
theorem ref_pfx {s : ByteArray} (h : pfxB seeT s = true) : 4 ≤ s.size ∧ s.extract 0 4 = seeT := by
  by_cases h1 : 4 ≤ s.size
  · rw [pfxB_of (p := seeT) h1] at h
    exact ⟨h1, of_decide_eq_true h⟩
  · rw [pfxB_long (p := seeT) h1] at h
    cases h
theorem see_beq (b : ByteArray) : (b.toList == [115, 101, 101, 32]) = decide (b = seeT) := by
  rw [← toList_beq]
  congr 1
  rw [ByteArray.toList_eq]; rfl
theorem empty_t {s : ByteArray} (h : s = ⟨#[]⟩) : s.toList.isEmpty = true := by rw [h, ByteArray.toList_eq]; rfl
theorem empty_f {s : ByteArray} (h : ¬ s = ⟨#[]⟩) : s.toList.isEmpty = false := by
  cases he : s.toList.isEmpty with
  | false => rfl
  | true =>
    refine absurd (toList_inj ?_) h
    rw [List.isEmpty_iff.1 he, ByteArray.toList_eq]
/-- a line refers to a path -/
def hitB (path s : ByteArray) : Bool := decide (refT s = path) && !decide (refT s = ⟨#[]⟩)
theorem hit_none {path s : ByteArray} (h : refT s = ⟨#[]⟩) : hitB path s = false := by rw [hitB, decide_eq_true h]; simp
theorem hit_some {path s : ByteArray} (h : ¬ refT s = ⟨#[]⟩) : hitB path s = decide (refT s = path) := by rw [hitB, decide_eq_false h]; simp
theorem hit_empty {path s : ByteArray} (h : path = ⟨#[]⟩) : hitB path s = false := by
  subst h
  unfold hitB
  cases decide (refT s = ⟨#[]⟩) <;> rfl
theorem hit_path {path s : ByteArray} (h : ¬ path = ⟨#[]⟩) : hitB path s = decide (refT s = path) := by
  unfold hitB
  by_cases e : refT s = path
  · rw [decide_eq_true e, e, decide_eq_false h]; rfl
  · rw [decide_eq_false e]; rfl
def usesB (path : ByteArray) (f : File) : Bool := f.text.any (hitB path)
theorem any_hit {α : Type} {P : α → Bool} {B : Bool} {xs : List α} {k : Nat} (H : B = (xs.drop k).any P) (h : k < xs.length) (hp : P xs[k] = true) : B = true := by
  rw [H, drop_cons xs k h, List.any_cons, hp]; rfl
theorem any_next {α : Type} {P : α → Bool} {B : Bool} {xs : List α} {k : Nat} (H : B = (xs.drop k).any P) (h : k < xs.length) (hp : P xs[k] = false) : B = (xs.drop (k + 1)).any P := by
  rw [H, drop_cons xs k h, List.any_cons, hp]; rfl
theorem any_end {α : Type} {P : α → Bool} {B : Bool} {xs : List α} {k : Nat} (H : B = (xs.drop k).any P) (h : ¬ k < xs.length) : B = false := by
  rw [H, drop_nil xs k h]; rfl
theorem anyo_hit {α : Type} {P : α → Bool} {B c : Bool} {xs : List α} {k : Nat} (H : B = (c || (xs.drop k).any P)) (h : k < xs.length) (hp : P xs[k] = true) : B = (true || (xs.drop (k + 1)).any P) := by
  rw [H, drop_cons xs k h, List.any_cons, hp]; simp
theorem anyo_next {α : Type} {P : α → Bool} {B c : Bool} {xs : List α} {k : Nat} (H : B = (c || (xs.drop k).any P)) (h : k < xs.length) (hp : P xs[k] = false) : B = (c || (xs.drop (k + 1)).any P) := by
  rw [H, drop_cons xs k h, List.any_cons, hp]; rfl
theorem anyo_yes {α : Type} {P : α → Bool} {B : Bool} {xs : List α} {k : Nat} (H : B = (true || (xs.drop k).any P)) : B = (true || (xs.drop (k + 1)).any P) := by
  rw [H]; rfl
theorem anyo_end {α : Type} {P : α → Bool} {B c : Bool} {xs : List α} {k : Nat} (H : B = (c || (xs.drop k).any P)) (h : ¬ k < xs.length) : B = c := by
  rw [H, drop_nil xs k h]; simp
def usesT (t : List File) (path : ByteArray) : List ByteArray := (t.filter (usesB path)).map (·.path)
theorem uses_yes {t : List File} {path : ByteArray} {M ol : List ByteArray} {k : Nat} (H : M = ol ++ usesT (t.drop k) path) (h : k < t.length) (hp : usesB path t[k] = true) : M = (ol ++ [t[k].path]) ++ usesT (t.drop (k + 1)) path := by
  rw [H, drop_cons t k h, usesT, List.filter_cons_of_pos hp, List.map_cons, List.append_assoc]; rfl
theorem uses_no {t : List File} {path : ByteArray} {M ol : List ByteArray} {k : Nat} (H : M = ol ++ usesT (t.drop k) path) (h : k < t.length) (hp : usesB path t[k] = false) : M = ol ++ usesT (t.drop (k + 1)) path := by
  rw [H, drop_cons t k h, usesT, List.filter_cons_of_neg (by rw [hp]; simp)]; rfl
theorem uses_end {t : List File} {path : ByteArray} {M ol : List ByteArray} {k : Nat} (H : M = ol ++ usesT (t.drop k) path) (h : ¬ k < t.length) : M = ol := by
  rw [H, drop_nil t k h, usesT]; simp
def ruleUses (t : List File) (path : ByteArray) : List ByteArray := if treeB t = true then usesT t path else []
theorem ruleUses_len (t : List File) (path : ByteArray) : (ruleUses t path).length ≤ 8 := by
  unfold ruleUses
  split
  · rename_i h
    unfold usesT
    rw [List.length_map]
    have h1 := List.length_filter_le (usesB path) t
    unfold treeB at h
    rw [Bool.and_eq_true] at h
    have := of_decide_eq_true h.1
    omega
  · simp
/-- a line refers to a file that is not there -/
def badB (t : List File) (s : ByteArray) : Bool := !decide (refT s = ⟨#[]⟩) && (getT t (refT s)).isNone
theorem bad_none {t : List File} {s : ByteArray} (h : refT s = ⟨#[]⟩) : badB t s = false := by rw [badB, decide_eq_true h]; rfl
theorem bad_some {t : List File} {s : ByteArray} {M : Option (List ByteArray)} (h : ¬ refT s = ⟨#[]⟩) (hM : getT t (refT s) = M) : badB t s = M.isNone := by rw [badB, decide_eq_false h, hM]; rfl
def lostL (t : List File) (p : ByteArray) : List ByteArray → Nat → List Lost
  | [], _ => []
  | s :: r, k => (if badB t s = true then [⟨p, k, refT s⟩] else []) ++ lostL t p r (k + 1)
theorem lost_yes {t : List File} {p : ByteArray} {M ol Z : List Lost} {xs : List ByteArray} {k : Nat} (H : M = ol ++ (lostL t p (xs.drop k) k ++ Z)) (h : k < xs.length) (hb : badB t xs[k] = true) : M = (ol ++ [⟨p, k, refT xs[k]⟩]) ++ (lostL t p (xs.drop (k + 1)) (k + 1) ++ Z) := by
  rw [H, drop_cons xs k h, lostL, if_pos hb, List.append_assoc, List.append_assoc]
theorem lost_no {t : List File} {p : ByteArray} {M ol Z : List Lost} {xs : List ByteArray} {k : Nat} (H : M = ol ++ (lostL t p (xs.drop k) k ++ Z)) (h : k < xs.length) (hb : badB t xs[k] = false) : M = ol ++ (lostL t p (xs.drop (k + 1)) (k + 1) ++ Z) := by
  rw [H, drop_cons xs k h, lostL, hb]; rfl
theorem lost_end {t : List File} {p : ByteArray} {M ol Z : List Lost} {xs : List ByteArray} {k : Nat} (H : M = ol ++ (lostL t p (xs.drop k) k ++ Z)) (h : ¬ k < xs.length) : M = ol ++ Z := by
  rw [H, drop_nil xs k h]; rfl
theorem lostL_len (t : List File) (p : ByteArray) : ∀ (xs : List ByteArray) (k : Nat), (lostL t p xs k).length ≤ xs.length
  | [], _ => Nat.le_refl _
  | s :: r, k => by
    have := lostL_len t p r (k + 1)
    rw [lostL, List.length_append]
    split <;> simp <;> omega
/-- the lines of these files that refer to a file that is not there -/
def lostA (t : List File) : List File → List Lost
  | [] => []
  | f :: r => lostL t f.path f.text 0 ++ lostA t r
theorem lostA_next {t : List File} {M ol : List Lost} {fs : List File} {k : Nat} (H : M = ol ++ lostA t (fs.drop k)) (h : k < fs.length) : M = ol ++ (lostL t fs[k].path fs[k].text 0 ++ lostA t (fs.drop (k + 1))) := by
  rw [H, drop_cons fs k h, lostA]
theorem lostA_end {t : List File} {M ol : List Lost} {fs : List File} {k : Nat} (H : M = ol ++ lostA t (fs.drop k)) (h : ¬ k < fs.length) : M = ol := by
  rw [H, drop_nil fs k h, lostA, List.append_nil]
theorem lostA_len (t : List File) : ∀ (fs : List File), (∀ f, f ∈ fs → f.text.length ≤ 10) → (lostA t fs).length ≤ 10 * fs.length
  | [], _ => Nat.le_refl _
  | f :: r, h => by
    have h1 := lostA_len t r fun g hg => h g (List.mem_cons_of_mem _ hg)
    have h2 := lostL_len t f.path f.text 0
    have h3 := h f (List.mem_cons_self ..)
    rw [lostA, List.length_append, List.length_cons]
    omega
def ruleLost (t : List File) : List Lost := if treeB t = true then lostA t t else []
theorem textB_ten {t : List ByteArray} (h : textB t = true) : t.length ≤ 10 := by simp [textB] at h; exact h.1
theorem tree_files {t : List File} (h : treeB t = true) : t.length ≤ 8 ∧ ∀ f, f ∈ t → f.text.length ≤ 10 := by
  unfold treeB at h
  rw [Bool.and_eq_true] at h
  refine ⟨of_decide_eq_true h.1, fun f hf => ?_⟩
  obtain ⟨k, hk, rfl⟩ := List.getElem_of_mem hf
  exact textB_ten (treeAt_path hk (of_decide_eq_true h.2 k hk)).2
theorem lostA_few {t u : List File} (h : treeB u = true) : (lostA t u).length ≤ 80 := by
  obtain ⟨h1, h2⟩ := tree_files h
  have := lostA_len t u h2
  omega
theorem ruleLost_len (t : List File) : (ruleLost t).length ≤ 80 := by
  unfold ruleLost
  split
  · rename_i h
    exact lostA_few h
  · simp
end Go.Vc
namespace Go.Vc
def hasT (out : List (List ByteArray)) (t : List ByteArray) : Bool := out.any fun x => decide (x = t)
def addT (out : List (List ByteArray)) (t : List ByteArray) : List (List ByteArray) := if hasT out t = true then out else out ++ [t]
def addF (out : List (List ByteArray)) (fs : List File) : List (List ByteArray) := fs.foldl (fun o f => addT o f.text) out
def addC (out : List (List ByteArray)) (cs : List Commit) : List (List ByteArray) := cs.foldl (fun o c => addF o c.tree) out
theorem hasT_hit {out : List (List ByteArray)} {t : List ByteArray} {k : Nat} (H : hasT out t = hasT (out.drop k) t) (h : k < out.length) (he : out[k] = t) : hasT out t = true := by
  rw [H, drop_cons out k h, hasT, List.any_cons, decide_eq_true he]; rfl
theorem hasT_next {out : List (List ByteArray)} {t : List ByteArray} {k : Nat} (H : hasT out t = hasT (out.drop k) t) (h : k < out.length) (he : ¬ out[k] = t) : hasT out t = hasT (out.drop (k + 1)) t := by
  rw [H, drop_cons out k h, hasT, List.any_cons, decide_eq_false he, Bool.false_or]; rfl
theorem hasT_end {out : List (List ByteArray)} {t : List ByteArray} {k : Nat} (H : hasT out t = hasT (out.drop k) t) (h : ¬ k < out.length) : hasT out t = false := by
  rw [H, drop_nil out k h]; rfl
/-- the same, with what was found so far -/
theorem hasO_next {out : List (List ByteArray)} {t : List ByteArray} {l : Bool} {k : Nat} (H : hasT out t = (l || hasT (out.drop k) t)) (h : k < out.length) : hasT out t = ((l || decide (out[k] = t)) || hasT (out.drop (k + 1)) t) := by
  rw [H, drop_cons out k h, hasT, List.any_cons, Bool.or_assoc]; rfl
theorem hasO_end {out : List (List ByteArray)} {t : List ByteArray} {l : Bool} {k : Nat} (H : hasT out t = (l || hasT (out.drop k) t)) (h : ¬ k < out.length) : hasT out t = l := by
  rw [H, drop_nil out k h]; simp [hasT]
theorem addF_cons (out : List (List ByteArray)) (f : File) (fs : List File) : addF out (f :: fs) = addF (addT out f.text) fs := rfl
theorem addC_cons (out : List (List ByteArray)) (c : Commit) (cs : List Commit) : addC out (c :: cs) = addC (addF out c.tree) cs := rfl
theorem addF_next {M out : List (List ByteArray)} {fs : List File} {k : Nat} (H : M = addF out (fs.drop k)) (h : k < fs.length) : M = addF (addT out fs[k].text) (fs.drop (k + 1)) := by rw [H, drop_cons fs k h, addF_cons]
theorem addF_end {M out : List (List ByteArray)} {fs : List File} {k : Nat} (H : M = addF out (fs.drop k)) (h : ¬ k < fs.length) : M = out := by rw [H, drop_nil fs k h]; rfl
theorem addC_next {M out : List (List ByteArray)} {cs : List Commit} {k : Nat} (H : M = addC out (cs.drop k)) (h : k < cs.length) : M = addC (addF out cs[k].tree) (cs.drop (k + 1)) := by rw [H, drop_cons cs k h, addC_cons]
theorem addC_end {M out : List (List ByteArray)} {cs : List Commit} {k : Nat} (H : M = addC out (cs.drop k)) (h : ¬ k < cs.length) : M = out := by rw [H, drop_nil cs k h]; rfl
theorem addT_t {out : List (List ByteArray)} {t : List ByteArray} (h : hasT out t = true) : addT out t = out := by unfold addT; rw [if_pos h]
theorem addT_f {out : List (List ByteArray)} {t : List ByteArray} (h : hasT out t = false) : addT out t = out ++ [t] := by unfold addT; rw [if_neg (by rw [h]; simp)]
def allTexts (r : Repo) : List (List ByteArray) := addC [] r.commits
def keepTB (r : Repo) : Bool := repoB r && decide ((allTexts r).length ≤ 12)
def keepTexts (r : Repo) : List (List ByteArray) := if keepTB r = true then allTexts r else []
theorem addT_len (out : List (List ByteArray)) (t : List ByteArray) : (addT out t).length ≤ out.length + 1 := by
  unfold addT
  split <;> simp
theorem tree_len {t : List File} (h : treeB t = true) : t.length ≤ 8 := by
  unfold treeB at h
  rw [Bool.and_eq_true, decide_eq_true_eq] at h
  exact h.1
theorem tree_file {t : List File} (h : treeB t = true) {k : Nat} (hk : k < t.length) : pathB t[k].path = true ∧ textB t[k].text = true := by
  unfold treeB at h
  rw [Bool.and_eq_true] at h
  exact treeAt_path hk (of_decide_eq_true h.2 k hk)
/-- every text is one of a file -/
theorem addF_mem {P : List ByteArray → Prop} : ∀ (fs : List File) (out : List (List ByteArray)), (∀ t, t ∈ out → P t) → (∀ f, f ∈ fs → P f.text) → ∀ t, t ∈ addF out fs → P t
  | [], out, h, _ => h
  | f :: fs, out, h, hf => by
    rw [addF_cons]
    refine addF_mem fs _ (fun t ht => ?_) fun g hg => hf g (List.mem_cons_of_mem _ hg)
    unfold addT at ht
    split at ht
    · exact h t ht
    · rcases List.mem_append.1 ht with ht | ht
      · exact h t ht
      · rw [List.mem_singleton] at ht
        rw [ht]
        exact hf f (List.mem_cons_self ..)
theorem addC_mem {P : List ByteArray → Prop} : ∀ (cs : List Commit) (out : List (List ByteArray)), (∀ t, t ∈ out → P t) → (∀ c, c ∈ cs → ∀ f, f ∈ c.tree → P f.text) → ∀ t, t ∈ addC out cs → P t
  | [], out, h, _ => h
  | c :: cs, out, h, hf => by
    rw [addC_cons]
    exact addC_mem cs _ (addF_mem c.tree out h (hf c (List.mem_cons_self ..))) fun d hd => hf d (List.mem_cons_of_mem _ hd)
end Go.Vc
namespace Go.Vc
theorem lessB_irr (a : ByteArray) : lessB a a = false := lessB_irrefl a
theorem tree_dist {t : List File} (h : treeB t = true) {i j : Nat} (hj : j < i) (hi : i < t.length) : ¬ (t[j]'(by omega)).path = t[i].path := fun e => by
  have h1 : ∀ i, i < t.length → fileAt t i = true := fun i hi => by
    unfold treeB at h
    rw [Bool.and_eq_true] at h
    have := of_decide_eq_true h.2 i hi
    rw [treeAt, Bool.and_eq_true] at this
    exact this.1
  have := file_asc h1 i j hj hi
  rw [e, lessB_irr] at this
  cases this
def DistF (t : List File) : Prop := t.Pairwise fun f g => ¬ f.path = g.path
theorem dist_tree {t : List File} (h : treeB t = true) : DistF t := List.pairwise_iff_getElem.2 fun i j hi hj hij => tree_dist h hij hj
theorem getT_of {t : List File} (h : DistF t) {f : File} (hf : f ∈ t) : getT t f.path = some f.text := by
  induction t with
  | nil => cases hf
  | cons g r ih =>
    obtain ⟨h1, h2⟩ := List.pairwise_cons.1 h
    rw [getT]
    rcases List.mem_cons.1 hf with rfl | hf
    · rw [if_pos rfl]
    · rw [if_neg (h1 f hf)]
      exact ih h2 hf
theorem lostL_mem {t : List File} {p : ByteArray} : ∀ {xs : List ByteArray} {k : Nat} {x : Lost}, x ∈ lostL t p xs k → x.path = p ∧ ∃ i, i < xs.length ∧ x.line = ((k + i : Nat) : Int)
  | [], _, _, h => by cases h
  | s :: r, k, x, h => by
    rw [lostL] at h
    rcases List.mem_append.1 h with h | h
    · split at h
      · obtain rfl := List.mem_singleton.1 h
        exact ⟨rfl, 0, by simp, rfl⟩
      · cases h
    · obtain ⟨h1, i, h2, h3⟩ := lostL_mem h
      exact ⟨h1, i + 1, by simp; omega, by rw [h3]; congr 1; omega⟩
theorem lostA_mem {t : List File} : ∀ {fs : List File} {x : Lost}, x ∈ lostA t fs → ∃ f, f ∈ fs ∧ x ∈ lostL t f.path f.text 0
  | [], _, h => by cases h
  | f :: r, x, h => by
    rw [lostA] at h
    rcases List.mem_append.1 h with h | h
    · exact ⟨f, List.mem_cons_self .., h⟩
    · obtain ⟨g, hg, hx⟩ := lostA_mem h
      exact ⟨g, List.mem_cons_of_mem _ hg, hx⟩
/-- a number is among these -/
def lineIn (xs : List Int) (n : Int) : Bool := decide (0 ≤ place xs n)
theorem placeF_any (n : Int) : ∀ (xs : List Int) (k : Nat), decide (0 ≤ placeF xs k n) = xs.any fun x => decide (x = n)
  | [], _ => rfl
  | x :: r, k => by
    rw [placeF, List.any_cons]
    split
    · rename_i h; rw [decide_eq_true h]; simp
    · rename_i h; rw [decide_eq_false h, placeF_any n r (k + 1)]; rfl
theorem lineIn_any (xs : List Int) (n : Int) : lineIn xs n = xs.any fun x => decide (x = n) := placeF_any n xs 0
/-- where the lines that were lost already are now -/
def knownL (old now : List ByteArray) (ls : List Lost) : List Int := ls.map fun x => (matchT old now).getD x.line.toNat 0
def knownT (a : List File) (f : File) : List Int := match getT a f.path with
  | none => []
  | some old => knownL old f.text (lostL a f.path old 0)
theorem known_none {a : List File} {f : File} (h : getT a f.path = none) : knownT a f = [] := by rw [knownT, h]
theorem known_some {a : List File} {f : File} {old : List ByteArray} (h : getT a f.path = some old) : knownT a f = knownL old f.text (lostL a f.path old 0) := by rw [knownT, h]
def moreF (a b : List File) (f : File) : List Lost := (lostL b f.path f.text 0).filter fun x => !lineIn (knownT a f) x.line
def moreA (a b : List File) : List File → List Lost
  | [] => []
  | f :: r => moreF a b f ++ moreA a b r
def ruleMore (a b : List File) : List Lost := if (treeB a && treeB b) = true then moreA a b b else []
theorem moreA_len (a b : List File) : ∀ (fs : List File), (moreA a b fs).length ≤ (lostA b fs).length
  | [] => Nat.le_refl _
  | f :: r => by
    have h1 := moreA_len a b r
    have h2 : (moreF a b f).length ≤ (lostL b f.path f.text 0).length := List.length_filter_le _ _
    rw [moreA, lostA, List.length_append, List.length_append]
    omega
theorem ruleMore_len (a b : List File) : (ruleMore a b).length ≤ 80 := by
  unfold ruleMore
  split
  · rename_i h
    rw [Bool.and_eq_true] at h
    have h1 := moreA_len a b b
    have h2 := lostA_few (t := b) h.2
    omega
  · simp
theorem moreA_next {a b : List File} {M ol : List Lost} {fs : List File} {k : Nat} (H : M = ol ++ moreA a b (fs.drop k)) (h : k < fs.length) : M = ol ++ (moreF a b fs[k] ++ moreA a b (fs.drop (k + 1))) := by
  rw [H, drop_cons fs k h, moreA]
theorem moreA_end {a b : List File} {M ol : List Lost} {fs : List File} {k : Nat} (H : M = ol ++ moreA a b (fs.drop k)) (h : ¬ k < fs.length) : M = ol := by
  rw [H, drop_nil fs k h, moreA, List.append_nil]
/-- as the reference asks it -/
def knownS (a b : List File) (ls : List Lost) (x : Lost) : Bool := ls.any fun y => decide (y.path = x.path) && decide ((matchT ((getT a x.path).getD []) ((getT b x.path).getD [])).getD y.line.toNat 0 = x.line)
theorem anyA_off {t : List File} {p : ByteArray} {Q : Lost → Bool} : ∀ {fs : List File}, (∀ f, f ∈ fs → ¬ f.path = p) → (lostA t fs).any (fun y => decide (y.path = p) && Q y) = false
  | [], _ => rfl
  | f :: r, h => by
    rw [lostA, List.any_append, anyA_off fun g hg => h g (List.mem_cons_of_mem _ hg), Bool.or_false]
    apply Bool.eq_false_iff.2
    intro h2
    obtain ⟨y, hy, h3⟩ := List.any_eq_true.1 h2
    rw [(lostL_mem hy).1, decide_eq_false (h f (List.mem_cons_self ..))] at h3
    cases h3
theorem anyA_at {t : List File} {p : ByteArray} {Q : Lost → Bool} : ∀ {fs : List File}, DistF fs → (lostA t fs).any (fun y => decide (y.path = p) && Q y) = match getT fs p with
    | none => false
    | some old => (lostL t p old 0).any Q
  | [], _ => rfl
  | f :: r, h => by
    obtain ⟨h1, h2⟩ := List.pairwise_cons.1 h
    rw [lostA, List.any_append, getT]
    by_cases e : f.path = p
    · rw [if_pos e, anyA_off (fs := r) (fun g hg => by rw [← e]; exact fun h => h1 g hg h.symm), Bool.or_false]
      subst e
      show _ = (lostL t f.path f.text 0).any Q
      have : ∀ ls : List Lost, (∀ y, y ∈ ls → y.path = f.path) → ls.any (fun y => decide (y.path = f.path) && Q y) = ls.any Q := by
        intro ls
        induction ls with
        | nil => intro _; rfl
        | cons y r ih =>
          intro h
          rw [List.any_cons, List.any_cons, ih fun z hz => h z (List.mem_cons_of_mem _ hz), decide_eq_true (h y (List.mem_cons_self ..)), Bool.true_and]
      exact this _ fun y hy => (lostL_mem hy).1
    · rw [if_neg e, anyA_at h2]
      have : (lostL t f.path f.text 0).any (fun y => decide (y.path = p) && Q y) = false := by
        apply Bool.eq_false_iff.2
        intro h2
        obtain ⟨y, hy, h3⟩ := List.any_eq_true.1 h2
        rw [(lostL_mem hy).1, decide_eq_false e] at h3
        cases h3
      rw [this, Bool.false_or]
theorem knownS_is {a b : List File} (ha : DistF a) {f : File} (hf : getT b f.path = some f.text) {x : Lost} (hx : x.path = f.path) : knownS a b (lostA a a) x = lineIn (knownT a f) x.line := by
  unfold knownS
  rw [hx, anyA_at (Q := fun y => decide ((matchT ((getT a f.path).getD []) ((getT b f.path).getD [])).getD y.line.toNat 0 = x.line)) ha, hf]
  cases hg : getT a f.path with
  | none => rw [known_none hg]; rfl
  | some old =>
    rw [known_some hg, lineIn_any, knownL, List.any_map]
    rfl
theorem more_spec {a b : List File} (ha : DistF a) : ∀ {fs : List File}, (∀ f, f ∈ fs → getT b f.path = some f.text) → (lostA b fs).filter (fun x => !knownS a b (lostA a a) x) = moreA a b fs
  | [], _ => rfl
  | f :: r, h => by
    rw [lostA, List.filter_append, more_spec ha fun g hg => h g (List.mem_cons_of_mem _ hg), moreA, moreF]
    congr 1
    refine List.filter_congr fun x hx => ?_
    rw [knownS_is ha (h f (List.mem_cons_self ..)) (lostL_mem hx).1]
theorem ruleMore_spec {a b : List File} (ha : treeB a = true) (hb : treeB b = true) : ruleMore a b = (lostA b b).filter (fun x => !knownS a b (lostA a a) x) := by
  rw [more_spec (dist_tree ha) fun f hf => getT_of (dist_tree hb) hf, ruleMore, ha, hb]; rfl
theorem ruleMore_bad {a b : List File} (h : (treeB a && treeB b) = false) : ruleMore a b = [] := by rw [ruleMore, h]; rfl
end Go.Vc
namespace Go.Vc
/-- a tree, file by file -/
theorem tree_iff (t : List File) : treeB t = true ↔ t.length ≤ 8 ∧ (∀ f, f ∈ t → pathB f.path = true ∧ textB f.text = true) ∧ t.Pairwise (fun f g => lessB f.path g.path = true ∧ inB f.path g.path = false) := by
  constructor
  · intro h
    have h0 := h
    unfold treeB at h
    rw [Bool.and_eq_true] at h
    have h2 := of_decide_eq_true h.2
    have h1 : ∀ i, i < t.length → fileAt t i = true := fun i hi => by have := h2 i hi; rw [treeAt, Bool.and_eq_true] at this; exact this.1
    refine ⟨of_decide_eq_true h.1, fun f hf => ?_, List.pairwise_iff_getElem.2 fun i j hi hj hij => ⟨file_asc h1 j i hij hj, ?_⟩⟩
    · obtain ⟨k, hk, rfl⟩ := List.getElem_of_mem hf
      exact treeAt_path hk (h2 k hk)
    · have := h2 j hj
      rw [treeAt, Bool.and_eq_true] at this
      have := of_decide_eq_true this.2 i hij
      rwa [getD_file hj, getD_file hi] at this
  · rintro ⟨h1, h2, h3⟩
    rw [tree_few h1]
    refine trees_t fun i hi => ?_
    have h4 := h2 _ (List.getElem_mem hi)
    refine treeAt_ok hi ?_ fun j hj => (List.pairwise_iff_getElem.1 h3 j i (by omega) hi hj).2
    by_cases h0 : i = 0
    · exact fileAt_first h0 hi h4.1 h4.2
    · exact fileAt_pos (by omega) hi h4.1 h4.2 (List.pairwise_iff_getElem.1 h3 (i - 1) i (by omega) hi (by omega)).1
theorem tree_filter {t : List File} (h : treeB t = true) (P : File → Bool) : treeB (t.filter P) = true := by
  obtain ⟨h1, h2, h3⟩ := (tree_iff t).1 h
  exact (tree_iff _).2 ⟨Nat.le_trans (List.length_filter_le _ _) h1, fun f hf => h2 f (List.mem_filter.1 hf).1, h3.filter P⟩
theorem treeB_nil : treeB [] = true := by rw [tree_few (by simp)]; exact trees_t fun i hi => by simp at hi
def treeGet (t : List File) (path : ByteArray) : Option (List ByteArray) := if treeB t = true then getT t path else none
theorem treeGet_ok {t : List File} {path : ByteArray} (h : treeB t = true) : treeGet t path = getT t path := if_pos h
theorem treeGet_bad {t : List File} {path : ByteArray} (h : treeB t = false) : treeGet t path = none := if_neg (by rw [h]; simp)
def pathsU (path : ByteArray) (t : List File) : List ByteArray := (t.filter fun f => isAtB path f.path).map (·.path)
def treeUnder (t : List File) (path : ByteArray) : List ByteArray := if treeB t = true then pathsU path t else []
theorem treeUnder_ok {t : List File} {path : ByteArray} (h : treeB t = true) : treeUnder t path = pathsU path t := if_pos h
theorem treeUnder_bad {t : List File} {path : ByteArray} (h : treeB t = false) : treeUnder t path = [] := if_neg (by rw [h]; simp)
theorem pathsU_yes {t : List File} {path : ByteArray} {M ol : List ByteArray} {k : Nat} (H : M = ol ++ pathsU path (t.drop k)) (h : k < t.length) (hp : isAtB path t[k].path = true) : M = (ol ++ [t[k].path]) ++ pathsU path (t.drop (k + 1)) := by
  rw [H, drop_cons t k h, pathsU, List.filter_cons_of_pos (p := fun f : File => isAtB path f.path) hp, List.map_cons, List.append_assoc]; rfl
theorem pathsU_no {t : List File} {path : ByteArray} {M ol : List ByteArray} {k : Nat} (H : M = ol ++ pathsU path (t.drop k)) (h : k < t.length) (hp : isAtB path t[k].path = false) : M = ol ++ pathsU path (t.drop (k + 1)) := by
  rw [H, drop_cons t k h, pathsU, List.filter_cons_of_neg (p := fun f : File => isAtB path f.path) (by rw [hp]; simp)]; rfl
theorem pathsU_end {t : List File} {path : ByteArray} {M ol : List ByteArray} {k : Nat} (H : M = ol ++ pathsU path (t.drop k)) (h : ¬ k < t.length) : M = ol := by
  rw [H, drop_nil t k h, pathsU]; simp
theorem pathsU_len (path : ByteArray) (t : List File) : (pathsU path t).length ≤ t.length := by
  unfold pathsU
  rw [List.length_map]
  exact List.length_filter_le _ _
theorem treeUnder_len (t : List File) (path : ByteArray) : (treeUnder t path).length ≤ 8 := by
  unfold treeUnder
  split
  · rename_i h
    have h1 := pathsU_len path t
    have h2 := (tree_files h).1
    omega
  · simp
/-- how far the law has come: n of the list are seen -/
def SeenP (L : List ByteArray) (P : File → Bool) (r : List File) (n : Nat) : Prop := n ≤ L.length ∧ L.drop n = (r.filter P).map (·.path)
section
variable {L : List ByteArray} {P : File → Bool} {t : List File} {k n : Nat}
theorem seen_yes (H : SeenP L P (t.drop k) n) (h : k < t.length) (hp : P t[k] = true) : ∃ hn : n < L.length, L[n] = t[k].path ∧ SeenP L P (t.drop (k + 1)) (n + 1) := by
  obtain ⟨h1, h2⟩ := H
  rw [drop_cons t k h, List.filter_cons_of_pos hp, List.map_cons] at h2
  have hn : n < L.length := by
    have := congrArg List.length h2
    rw [List.length_drop, List.length_cons] at this
    omega
  rw [List.drop_eq_getElem_cons hn] at h2
  injection h2 with h3 h4
  exact ⟨hn, h3, by omega, h4⟩
theorem seen_no (H : SeenP L P (t.drop k) n) (h : k < t.length) (hp : P t[k] = false) : SeenP L P (t.drop (k + 1)) n := by
  obtain ⟨h1, h2⟩ := H
  rw [drop_cons t k h, List.filter_cons_of_neg (by rw [hp]; simp)] at h2
  exact ⟨h1, h2⟩
theorem seen_end (H : SeenP L P (t.drop k) n) (h : ¬ k < t.length) : n = L.length := by
  obtain ⟨h1, h2⟩ := H
  rw [drop_nil t k h] at h2
  have := congrArg List.length h2
  rw [List.length_drop] at this
  simp at this
  omega
end
theorem see_list (path : ByteArray) : (seeT ++ path).data.toList = [115, 101, 101, 32] ++ path.data.toList := by rw [append_list]; rfl
theorem extract4_list (s : ByteArray) : (s.extract 4 s.size).data.toList = s.data.toList.drop 4 := by
  rw [extract_bytes, bytesB_list, List.take_of_length_le (by simp)]
theorem hit_see {path s : ByteArray} (h : ¬ path = ⟨#[]⟩) : hitB path s = decide (s = seeT ++ path) := by
  have hpos : 0 < path.size := by
    rcases Nat.eq_zero_or_pos path.size with h0 | h0
    · exact absurd (ba_ext (by have : path.data.toList.length = 0 := by simpa using h0
                               rw [List.eq_nil_of_length_eq_zero this])) h
    · exact h0
  rw [hit_path h, decide_eq_decide]
  constructor
  · intro e
    unfold refT at e
    split at e
    · rename_i h2
      obtain ⟨h2, h3⟩ := h2
      refine ba_ext ?_
      rw [append_list, ← e, ← h3, extract_list]
      rw [extract4_list, List.take_append_drop]
    · exact absurd e.symm h
  · intro e
    have h4 : s.data.toList = [115, 101, 101, 32] ++ path.data.toList := by rw [e, see_list]
    have h5 : s.size = 4 + path.size := by rw [e, append_size]; rfl
    have h6 : s.extract 0 4 = seeT := ba_ext (by rw [extract_list, h4]; rfl)
    rw [refT_yes (by omega) h6]
    refine ba_ext ?_
    rw [extract4_list, h4]
    rfl
theorem uses_see {path : ByteArray} (h : ¬ path = ⟨#[]⟩) (f : File) : usesB path f = f.text.any (fun s => decide (s = seeT ++ path)) := by
  unfold usesB
  congr 1
  funext s
  exact hit_see h
def dropT (t : List File) (path : ByteArray) : List File := t.filter fun f => !isAtB path f.path
def treeDrop (t : List File) (path : ByteArray) : List File := if treeB t = true then dropT t path else []
def dropB (t : List File) (path : ByteArray) : Bool := treeB t && decide ((dropT t path).length < t.length)
theorem treeDrop_ok {t : List File} {path : ByteArray} (h : treeB t = true) : treeDrop t path = dropT t path := if_pos h
theorem treeDrop_bad {t : List File} {path : ByteArray} (h : treeB t = false) : treeDrop t path = [] := if_neg (by rw [h]; simp)
theorem dropB_ok {t : List File} {path : ByteArray} (h : treeB t = true) : dropB t path = decide ((dropT t path).length < t.length) := by rw [dropB, h]; rfl
theorem dropB_bad {t : List File} {path : ByteArray} (h : treeB t = false) : dropB t path = false := by rw [dropB, h]; rfl
theorem drop_tree {t : List File} (h : treeB t = true) (path : ByteArray) : treeB (dropT t path) = true := tree_filter h _
theorem drop_under (t : List File) (path : ByteArray) : pathsU path (dropT t path) = [] := by
  unfold pathsU dropT
  rw [List.filter_filter, List.map_eq_nil_iff, List.filter_eq_nil_iff]
  intro f _
  cases isAtB path f.path <;> simp
theorem drop_sum (t : List File) (path : ByteArray) : (dropT t path).length + (pathsU path t).length = t.length := by
  unfold pathsU dropT
  rw [List.length_map]
  induction t with
  | nil => rfl
  | cons f r ih =>
    cases h : isAtB path f.path with
    | true =>
      rw [List.filter_cons_of_neg (by simp [h]), List.filter_cons_of_pos (by simp [h]), List.length_cons, List.length_cons]
      omega
    | false =>
      rw [List.filter_cons_of_pos (by simp [h]), List.filter_cons_of_neg (by simp [h]), List.length_cons, List.length_cons]
      omega
theorem drop_drop (t : List File) (path : ByteArray) : dropT (dropT t path) path = dropT t path := by
  unfold dropT
  rw [List.filter_filter]
  refine List.filter_congr fun f _ => ?_
  simp
end Go.Vc
namespace Go.Vc
/-- the reference's way: the file ahead of the first that is not less, others of its path gone -/
def setG (f : File) : Bool → List File → List File
  | put, [] => if put = true then [] else [f]
  | put, g :: r => (if (!put && !lessB g.path f.path) = true then [f] else []) ++ ((if g.path = f.path then [] else [g]) ++ setG f (put || !lessB g.path f.path) r)
def setT (t : List File) (f : File) : List File := setG f false t
theorem tset_true (f : File) : ∀ (t : List File), setG f true t = t.filter fun g => !decide (g.path = f.path)
  | [] => rfl
  | g :: r => by
    rw [setG, Bool.true_or, tset_true f r]
    by_cases e : g.path = f.path
    · rw [if_pos e, List.filter_cons_of_neg (by simp [e])]; rfl
    · rw [if_neg e, List.filter_cons_of_pos (by simp [e])]; rfl
section
variable {f : File} {t M ol : List File} {k : Nat} {put : Bool}
theorem tset_put (H : M = ol ++ setG f false (t.drop k)) (h : k < t.length) (hl : lessB t[k].path f.path = false) (he : ¬ t[k].path = f.path) : M = (ol ++ [f] ++ [t[k]]) ++ setG f true (t.drop (k + 1)) := by
  rw [H, drop_cons t k h, setG, hl, if_neg he]; simp
theorem tset_same (H : M = ol ++ setG f false (t.drop k)) (h : k < t.length) (hl : lessB t[k].path f.path = false) (he : t[k].path = f.path) : M = (ol ++ [f]) ++ setG f true (t.drop (k + 1)) := by
  rw [H, drop_cons t k h, setG, hl, if_pos he]; simp
theorem tset_less (H : M = ol ++ setG f false (t.drop k)) (h : k < t.length) (hl : lessB t[k].path f.path = true) (he : ¬ t[k].path = f.path) : M = (ol ++ [t[k]]) ++ setG f false (t.drop (k + 1)) := by
  rw [H, drop_cons t k h, setG, hl, if_neg he]; simp
theorem tset_more (H : M = ol ++ setG f true (t.drop k)) (h : k < t.length) (he : ¬ t[k].path = f.path) : M = (ol ++ [t[k]]) ++ setG f true (t.drop (k + 1)) := by
  rw [H, drop_cons t k h, setG, if_neg he]; simp
theorem tset_skip (H : M = ol ++ setG f true (t.drop k)) (h : k < t.length) (he : t[k].path = f.path) : M = ol ++ setG f true (t.drop (k + 1)) := by
  rw [H, drop_cons t k h, setG, if_pos he]; simp
theorem tset_end1 (H : M = ol ++ setG f true (t.drop k)) (h : ¬ k < t.length) : M = ol := by rw [H, drop_nil t k h]; simp [setG]
theorem tset_end0 (H : M = ol ++ setG f false (t.drop k)) (h : ¬ k < t.length) : M = ol ++ [f] := by rw [H, drop_nil t k h]; simp [setG]
end
theorem setG_len (f : File) : ∀ (t : List File) (put : Bool), (setG f put t).length ≤ t.length + 1
  | [], put => by rw [setG]; split <;> simp
  | g :: r, put => by
    rw [setG]
    cases put with
    | true =>
      have := setG_len f r true
      simp
      split <;> simp <;> omega
    | false =>
      cases h : lessB g.path f.path with
      | true =>
        have := setG_len f r false
        simp
        split <;> simp <;> omega
      | false =>
        have e : (setG f true r).length ≤ r.length := by rw [tset_true]; exact List.length_filter_le _ _
        simp
        split <;> simp <;> omega
theorem setT_len (t : List File) (f : File) : (setT t f).length ≤ t.length + 1 := setG_len f t false
theorem setG_mem {f g : File} : ∀ {t : List File} {put : Bool}, g ∈ setG f put t → g = f ∨ g ∈ t
  | [], put, h => by
    rw [setG] at h
    split at h
    · cases h
    · exact .inl (List.mem_singleton.1 h)
  | x :: r, put, h => by
    rw [setG] at h
    rcases List.mem_append.1 h with h | h
    · split at h
      · exact .inl (List.mem_singleton.1 h)
      · cases h
    · rcases List.mem_append.1 h with h | h
      · split at h
        · cases h
        · exact .inr (by rw [List.mem_singleton.1 h]; exact List.mem_cons_self ..)
      · rcases setG_mem h with h | h
        · exact .inl h
        · exact .inr (List.mem_cons_of_mem _ h)
theorem getT_ne {f : File} {p : ByteArray} (t : List File) (h : ¬ f.path = p) : getT (f :: t) p = getT t p := by
  show (if f.path = p then some f.text else getT t p) = _
  rw [if_neg h]
/-- what is set is got -/
theorem getT_app1 {f : File} {p : ByteArray} {t : List File} (h : f.path = p) : getT ([f] ++ t) p = some f.text := by
  show getT (f :: t) p = _
  rw [getT, if_pos h]
theorem getT_set (f : File) : ∀ (t : List File), getT (setG f false t) f.path = some f.text
  | [] => by
    rw [setG, if_neg (by simp), getT, if_pos rfl]
  | g :: r => by
    rw [setG]
    cases h : lessB g.path f.path with
    | false =>
      rw [if_pos (by rfl)]
      exact getT_app1 rfl
    | true =>
      have e : ¬ g.path = f.path := fun e => by rw [e, lessB_irr] at h; cases h
      rw [if_neg (by simp), if_neg e]
      show getT (g :: setG f false r) f.path = _
      rw [getT, if_neg e]
      exact getT_set f r
theorem getT_filter {P : File → Bool} {p : ByteArray} : ∀ {t : List File}, (∀ g, g ∈ t → g.path = p → P g = true) → getT (t.filter P) p = getT t p
  | [], _ => rfl
  | g :: r, h => by
    have ih := getT_filter (t := r) fun x hx => h x (List.mem_cons_of_mem _ hx)
    by_cases e : g.path = p
    · rw [List.filter_cons_of_pos (h g (List.mem_cons_self ..) e), getT, getT, if_pos e, if_pos e]
    · cases hp : P g with
      | true => rw [List.filter_cons_of_pos hp, getT, getT, if_neg e, if_neg e, ih]
      | false => rw [List.filter_cons_of_neg (by rw [hp]; simp), ih, getT, if_neg e]
/-- all else is as it was -/
theorem getT_set2 {f : File} {p : ByteArray} (hp : ¬ p = f.path) : ∀ (t : List File) (put : Bool), getT (setG f put t) p = getT t p
  | [], put => by
    rw [setG]
    split
    · rfl
    · exact getT_ne [] fun e => hp e.symm
  | g :: r, put => by
    have ih := getT_set2 hp r (put || !lessB g.path f.path)
    have e1 : getT ((if g.path = f.path then [] else [g]) ++ setG f (put || !lessB g.path f.path) r) p = getT (g :: r) p := by
      by_cases e : g.path = f.path
      · rw [if_pos e, List.nil_append, ih, getT_ne r (by rw [e]; exact fun h => hp h.symm)]
      · rw [if_neg e, List.singleton_append]
        show (if g.path = p then some g.text else getT (setG f _ r) p) = (if g.path = p then some g.text else getT r p)
        rw [ih]
    rw [setG]
    split
    · rw [List.singleton_append, getT_ne _ (fun e => hp e.symm), e1]
    · rw [List.nil_append, e1]
/-- in order -/
def AscF (t : List File) : Prop := t.Pairwise fun f g => lessB f.path g.path = true
theorem asc_tree {t : List File} (h : treeB t = true) : AscF t := ((tree_iff t).1 h).2.2.imp fun h => h.1
/-- a tree in order, cut at a path -/
theorem tset_split (f : File) : ∀ {t : List File}, AscF t → ∃ A M B, t = A ++ (M ++ B) ∧ setT t f = A ++ f :: B ∧ (∀ a, a ∈ A → lessB a.path f.path = true) ∧ (∀ b, b ∈ B → lessB f.path b.path = true) ∧ (M = [] ∨ ∃ g, M = [g] ∧ g.path = f.path)
  | [], _ => ⟨[], [], [], rfl, rfl, fun a h => (by cases h), fun b h => (by cases h), .inl rfl⟩
  | g :: r, h => by
    obtain ⟨h1, h2⟩ := List.pairwise_cons.1 h
    cases hl : lessB g.path f.path with
    | true =>
      have e : ¬ g.path = f.path := fun e => by rw [e, lessB_irr] at hl; cases hl
      obtain ⟨A, M, B, k1, k2, k3, k4, k5⟩ := tset_split f h2
      refine ⟨g :: A, M, B, by rw [k1]; rfl, ?_, fun a ha => ?_, k4, k5⟩
      · unfold setT at k2 ⊢
        rw [setG, hl, if_neg (by simp), if_neg e]
        show g :: setG f false r = _
        rw [k2]; rfl
      · rcases List.mem_cons.1 ha with rfl | ha
        · exact hl
        · exact k3 a ha
    | false =>
      have hset : setT (g :: r) f = [f] ++ ((if g.path = f.path then [] else [g]) ++ r.filter fun g => !decide (g.path = f.path)) := by
        unfold setT
        rw [setG, hl, if_pos (by rfl)]
        show [f] ++ (_ ++ setG f true r) = _
        rw [tset_true]
      by_cases e : g.path = f.path
      · have hr : ∀ b, b ∈ r → lessB f.path b.path = true := fun b hb => by rw [← e]; exact h1 b hb
        refine ⟨[], [g], r, rfl, ?_, fun a h => (by cases h), hr, .inr ⟨g, rfl, e⟩⟩
        rw [hset, if_pos e, List.filter_eq_self.2 fun b hb => ?_]
        · rfl
        · have := hr b hb
          have hne : ¬ b.path = f.path := fun e => by rw [e, lessB_irr] at this; cases this
          simp [hne]
      · have hfg : lessB f.path g.path = true := by
          rcases lessB_tri hl with h | h
          · exact h
          · exact absurd h e
        have hr : ∀ b, b ∈ r → lessB f.path b.path = true := fun b hb => lessB_trans hfg (h1 b hb)
        refine ⟨[], [], g :: r, rfl, ?_, fun a h => (by cases h), fun b hb => ?_, .inl rfl⟩
        · rw [hset, if_neg e, List.filter_eq_self.2 fun b hb => ?_]
          · rfl
          · have := hr b hb
            have hne : ¬ b.path = f.path := fun e => by rw [e, lessB_irr] at this; cases this
            simp [hne]
        · rcases List.mem_cons.1 hb with rfl | hb
          · exact hfg
          · exact hr b hb
/-- where a path belongs, from the end -/
def putK (p : ByteArray) (t : List File) : Nat → Nat
  | 0 => 0
  | k + 1 => if lessB (t.getD k noFile).path p = true then k + 1 else putK p t k
theorem putK_stop {p : ByteArray} {t : List File} {k K : Nat} (H : K = putK p t (k + 1)) (h : k < t.length) (hl : lessB t[k].path p = true) : K = k + 1 := by
  rw [H, putK, getD_file h, if_pos hl]
theorem putK_next {p : ByteArray} {t : List File} {k K : Nat} (H : K = putK p t (k + 1)) (h : k < t.length) (hl : lessB t[k].path p = false) : K = putK p t k := by
  rw [H, putK, getD_file h, if_neg (by rw [hl]; simp)]
theorem putK_at {p : ByteArray} {A C : List File} (hA : ∀ a, a ∈ A → lessB a.path p = true) (hC : ∀ c, c ∈ C → lessB c.path p = false) : ∀ n, n ≤ C.length → putK p (A ++ C) (A.length + n) = A.length
  | 0, _ => by
    rw [Nat.add_zero]
    cases h : A.length with
    | zero => rfl
    | succ m =>
      have hm : m < (A ++ C).length := by simp; omega
      have hmA : m < A.length := by omega
      rw [putK, getD_file hm, if_pos]
      rw [List.getElem_append_left hmA]
      exact hA _ (List.getElem_mem hmA)
  | n + 1, h => by
    have hm : A.length + n < (A ++ C).length := by simp; omega
    rw [show A.length + (n + 1) = (A.length + n) + 1 by omega, putK, getD_file hm, if_neg]
    · exact putK_at hA hC n (by omega)
    · rw [List.getElem_append_right (by omega)]
      rw [hC _ (List.getElem_mem _)]
      simp
theorem putK_le (p : ByteArray) (t : List File) : ∀ n, putK p t n ≤ n
  | 0 => Nat.le_refl _
  | n + 1 => by
    rw [putK]
    split
    · exact Nat.le_refl _
    · have := putK_le p t n; omega
/-- the program's way -/
theorem put_is {t : List File} (h : AscF t) (f : File) : ∃ k, k = putK f.path t t.length ∧ k ≤ t.length ∧
    ((∃ hk : k < t.length, t[k].path = f.path ∧ setT t f = t.set k f ∧ (setT t f).length = t.length) ∨ ((∀ hk : k < t.length, ¬ t[k].path = f.path) ∧ setT t f = t.take k ++ f :: t.drop k ∧ (setT t f).length = t.length + 1)) := by
  obtain ⟨A, M, B, h1, h2, h3, h4, h5⟩ := tset_split f h
  have hC : ∀ c, c ∈ M ++ B → lessB c.path f.path = false := fun c hc => by
    rcases List.mem_append.1 hc with hc | hc
    · rcases h5 with rfl | ⟨g, rfl, hg⟩
      · cases hc
      · rw [List.mem_singleton.1 hc, hg, lessB_irr]
    · exact lessB_asymm (h4 c hc)
  have hk : putK f.path t t.length = A.length := by
    have := putK_at (p := f.path) h3 hC (M ++ B).length (Nat.le_refl _)
    rw [← List.length_append, ← h1] at this
    exact this
  refine ⟨_, rfl, by rw [hk, h1]; simp, ?_⟩
  rw [hk]
  rcases h5 with rfl | ⟨g, rfl, hg⟩
  · right
    rw [List.nil_append] at h1
    refine ⟨fun hk e => ?_, ?_, ?_⟩
    · have h6 : t[A.length] ∈ B := by
        have e2 : t[A.length] = B[0]'(by rw [h1] at hk; simp at hk; exact hk) := by
          subst h1
          rw [List.getElem_append_right (Nat.le_refl _)]
          simp
        rw [e2]
        exact List.getElem_mem _
      have := h4 _ h6
      rw [e, lessB_irr] at this
      cases this
    · rw [h2, h1]
      simp
    · rw [h2, h1]
      simp
      omega
  · left
    refine ⟨by rw [h1]; simp, ?_, ?_, ?_⟩
    · subst h1
      rw [List.getElem_append_right (Nat.le_refl _)]
      simpa using hg
    · rw [h2, h1]
      rw [List.set_append_right _ _ (Nat.le_refl _)]
      simp
    · rw [h2, h1]
      simp
def treeSet (t : List File) (f : File) : List File := if treeB t = true then (if treeB (setT t f) = true then setT t f else t) else []
def setB (t : List File) (f : File) : Bool := treeB t && treeB (setT t f)
theorem tset_again {t : List File} (h : AscF t) (f : File) : setT (setT t f) f = setT t f := by
  obtain ⟨A, M, B, h1, h2, h3, h4, h5⟩ := tset_split f h
  rw [h2]
  clear h1 h2 h5
  unfold setT
  induction A with
  | nil =>
    show setG f false (f :: B) = _
    rw [setG, lessB_irr, if_pos (by rfl), if_pos rfl]
    show [f] ++ ([] ++ setG f true B) = _
    rw [tset_true, List.filter_eq_self.2 fun b hb => ?_]
    · rfl
    · have := h4 b hb
      have hne : ¬ b.path = f.path := fun e => by rw [e, lessB_irr] at this; cases this
      simp [hne]
  | cons a r ih =>
    have hl := h3 a (List.mem_cons_self ..)
    have e : ¬ a.path = f.path := fun e => by rw [e, lessB_irr] at hl; cases hl
    show setG f false (a :: (r ++ f :: B)) = _
    rw [setG, hl, if_neg (by simp), if_neg e]
    show a :: setG f false (r ++ f :: B) = _
    rw [ih fun x hx => h3 x (List.mem_cons_of_mem _ hx)]
    rfl
theorem treeSet_no {t : List File} {f : File} (h : treeB t = true) (hb : setB t f = false) : treeSet t f = t := by
  unfold setB at hb
  rw [h, Bool.true_and] at hb
  unfold treeSet
  rw [if_pos h, if_neg (by rw [hb]; simp)]
theorem treeSet_yes {t x : List File} {s : ByteArray} {tx : List ByteArray} (h : treeB t = true) (hb : setB t ⟨s, tx⟩ = true) (hx : treeSet t ⟨s, tx⟩ = x) :
    treeB x = true ∧ treeGet x s = some tx ∧ (∀ p, ¬ p = s → treeGet x p = treeGet t p) ∧ treeSet x ⟨s, tx⟩ = x ∧ setB x ⟨s, tx⟩ = true ∧ (∀ f, f ∈ x → f = ⟨s, tx⟩ ∨ f ∈ t) := by
  unfold setB at hb
  rw [h, Bool.true_and] at hb
  have e : x = setT t ⟨s, tx⟩ := by
    rw [← hx]
    unfold treeSet
    rw [if_pos h, if_pos hb]
  have hTx : treeB x = true := by rw [e]; exact hb
  have e2 : setT x ⟨s, tx⟩ = x := by rw [e]; exact tset_again (asc_tree h) _
  refine ⟨hTx, ?_, fun p hp => ?_, ?_, ?_, fun f hf => ?_⟩
  · rw [treeGet_ok hTx, e]
    exact getT_set ⟨s, tx⟩ t
  · rw [treeGet_ok hTx, treeGet_ok h, e]
    exact getT_set2 hp t false
  · unfold treeSet
    rw [if_pos hTx, e2, if_pos hTx]
  · unfold setB
    rw [e2, hTx]
    rfl
  · rw [e] at hf
    exact setG_mem hf
end Go.Vc
