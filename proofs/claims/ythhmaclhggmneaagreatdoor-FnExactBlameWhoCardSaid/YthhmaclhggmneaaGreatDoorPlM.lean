/-
  Plain functions: what two texts have together, and which line of one is which of the other. No program is in sight here.
-/
import Derived.Test.YthhmaclhggmneaaGreatDoorVA
set_option linter.unusedVariables false
namespace Go.Vc

/-- how many lines two texts have together at most, in order -/
def lc : List ByteArray → List ByteArray → Nat
  | [], _ => 0
  | _ :: _, [] => 0
  | x :: aas, y :: bs => if x = y then lc aas bs + 1 else max (lc aas (y :: bs)) (lc (x :: aas) bs)
termination_by a b => a.length + b.length
theorem lc_nil (b : List ByteArray) : lc [] b = 0 := by rw [lc]
theorem lc_nil_r (a : List ByteArray) : lc a [] = 0 := by cases a <;> rw [lc]
theorem lc_eq {x y : ByteArray} (aas bs : List ByteArray) (h : x = y) : lc (x :: aas) (y :: bs) = lc aas bs + 1 := by rw [lc, if_pos h]
theorem lc_ne {x y : ByteArray} (aas bs : List ByteArray) (h : ¬ x = y) : lc (x :: aas) (y :: bs) = max (lc aas (y :: bs)) (lc (x :: aas) bs) := by rw [lc, if_neg h]
theorem lc_le (a b : List ByteArray) : lc a b ≤ a.length ∧ lc a b ≤ b.length := by
  induction a, b using lc.induct with
  | case1 b => simp [lc_nil]
  | case2 x aas => simp [lc_nil_r]
  | case3 aas y bs ih => rw [lc_eq _ _ rfl]; simp; omega
  | case4 x aas y bs h ih1 ih2 => rw [lc_ne _ _ h]; simp at *; omega
/-- what is at row i, column j -/
def lcAt (a b : List ByteArray) (i j : Nat) : Int := (lc (a.drop i) (b.drop j) : Int)
theorem lcAt_endA (a b : List ByteArray) (j : Nat) : lcAt a b a.length j = 0 := by unfold lcAt; rw [List.drop_length, lc_nil]; rfl
theorem lcAt_endB (a b : List ByteArray) (i : Nat) : lcAt a b i b.length = 0 := by unfold lcAt; rw [List.drop_length, lc_nil_r]; rfl
theorem lcAt_eq {a b : List ByteArray} {i j : Nat} (hi : i < a.length) (hj : j < b.length) (h : a[i] = b[j]) : lcAt a b i j = lcAt a b (i + 1) (j + 1) + 1 := by
  unfold lcAt
  rw [drop_cons a i hi, drop_cons b j hj, lc_eq _ _ h]; rfl
theorem lcAt_ne {a b : List ByteArray} {i j : Nat} (hi : i < a.length) (hj : j < b.length) (h : ¬ a[i] = b[j]) : lcAt a b i j = max (lcAt a b (i + 1) j) (lcAt a b i (j + 1)) := by
  unfold lcAt
  rw [drop_cons a i hi, drop_cons b j hj, lc_ne _ _ h, ← drop_cons a i hi, ← drop_cons b j hj]
  omega
theorem lcAt_ne' {a b : List ByteArray} {i j : Nat} (hi : i < a.length) (hj : j < b.length) (h : ¬ a[i] = b[j]) : lcAt a b i j = if lcAt a b (i + 1) j < lcAt a b i (j + 1) then lcAt a b i (j + 1) else lcAt a b (i + 1) j := by
  rw [lcAt_ne hi hj h]
  split <;> omega
theorem lcAt_le (a b : List ByteArray) (i j : Nat) : 0 ≤ lcAt a b i j ∧ lcAt a b i j ≤ a.length := by
  unfold lcAt
  have := (lc_le (a.drop i) (b.drop j)).1
  simp at this; omega

/-- a row of the table: all from column j on is there, or, of a row that is done, all -/
def rowS (a b : List ByteArray) (i j r : Nat) : List Int := (List.range (b.length + 1)).map fun c => if i ≤ r ∨ (r + 1 = i ∧ j ≤ c) then lcAt a b r c else 0
/-- the table: rows from i on are done, and of the one ahead all from column j on -/
def tabS (a b : List ByteArray) (i j : Nat) : List (List Int) := (List.range (a.length + 1)).map fun r => rowS a b i j r
theorem rowS_len (a b : List ByteArray) (i j r : Nat) : (rowS a b i j r).length = b.length + 1 := by simp [rowS]
theorem tabS_len (a b : List ByteArray) (i j : Nat) : (tabS a b i j).length = a.length + 1 := by simp [tabS]
theorem tabS_at (a b : List ByteArray) (i j r : Nat) (h : r < (tabS a b i j).length) : (tabS a b i j)[r] = rowS a b i j r := by simp [tabS]
theorem rowS_at (a b : List ByteArray) (i j r c : Nat) (h : c < (rowS a b i j r).length) : (rowS a b i j r)[c] = if i ≤ r ∨ (r + 1 = i ∧ j ≤ c) then lcAt a b r c else 0 := by simp [rowS]
theorem rowS_done {a b : List ByteArray} {i j r c : Nat} (h : c < (rowS a b i j r).length) (h1 : i ≤ r ∨ (r + 1 = i ∧ j ≤ c)) : (rowS a b i j r)[c] = lcAt a b r c := by rw [rowS_at, if_pos h1]
theorem rowS_same (a b : List ByteArray) (i j i' j' r : Nat) (h : ∀ c, c ≤ b.length → (if i ≤ r ∨ (r + 1 = i ∧ j ≤ c) then lcAt a b r c else 0) = (if i' ≤ r ∨ (r + 1 = i' ∧ j' ≤ c) then lcAt a b r c else 0)) : rowS a b i j r = rowS a b i' j' r := by
  unfold rowS
  refine List.map_congr_left fun c hc => h c ?_
  simp at hc; omega
theorem tabS_start (a b : List ByteArray) : tabS a b a.length b.length = List.replicate (a.length + 1) (List.replicate (b.length + 1) 0) := by
  unfold tabS
  refine List.ext_getElem (by simp) fun r h1 h2 => ?_
  simp only [List.getElem_map, List.getElem_range, List.getElem_replicate]
  unfold rowS
  refine List.ext_getElem (by simp) fun c h3 h4 => ?_
  simp only [List.getElem_map, List.getElem_range, List.getElem_replicate]
  simp at h1 h3
  split
  · rename_i h
    rcases h with h | ⟨h, h'⟩
    · obtain rfl : r = a.length := by omega
      exact lcAt_endA a b c
    · obtain rfl : c = b.length := by omega
      exact lcAt_endB a b r
  · rfl
theorem tabS_row (a b : List ByteArray) (i : Nat) : tabS a b (i + 1) 0 = tabS a b i b.length := by
  unfold tabS
  refine List.map_congr_left fun r hr => rowS_same a b _ _ _ _ r fun c hc => ?_
  simp at hr
  by_cases h1 : i ≤ r
  · rw [if_pos (by omega), if_pos (.inl h1)]
  · rw [if_neg (by omega)]
    split
    · rename_i h
      obtain rfl : c = b.length := by omega
      exact (lcAt_endB a b r).symm
    · rfl
theorem tabS_zero (a b : List ByteArray) (j : Nat) : tabS a b 0 j = tabS a b 0 0 := by
  unfold tabS
  refine List.map_congr_left fun r hr => rowS_same a b _ _ _ _ r fun c hc => ?_
  rw [if_pos (.inl (Nat.zero_le _)), if_pos (.inl (Nat.zero_le _))]
theorem tabS_set {a b : List ByteArray} {i j : Nat} (hi : i < a.length) (hj : j < b.length) :
    (tabS a b (i + 1) (j + 1)).set i ((rowS a b (i + 1) (j + 1) i).set j (lcAt a b i j)) = tabS a b (i + 1) j := by
  refine List.ext_getElem (by simp [tabS]) fun r h1 h2 => ?_
  rw [List.getElem_set, tabS_at, tabS_at]
  split
  · rename_i h
    subst h
    refine List.ext_getElem (by simp [rowS]) fun c h3 h4 => ?_
    rw [List.getElem_set, rowS_at, rowS_at]
    by_cases hc : j = c
    · subst hc
      rw [if_pos rfl, if_pos (by omega)]
    · rw [if_neg hc]
      by_cases h5 : j ≤ c
      · rw [if_pos (by omega), if_pos (by omega)]
      · rw [if_neg (by omega), if_neg (by omega)]
  · rename_i h
    refine rowS_same a b _ _ _ _ r fun c hc => ?_
    by_cases h5 : i + 1 ≤ r
    · rw [if_pos (.inl h5), if_pos (.inl h5)]
    · rw [if_neg (by omega), if_neg (by omega)]

/-- of each line of a text which of b's it is, from b's line j on; -1, if it is none -/
def mt (b : List ByteArray) (aas : List ByteArray) (j : Nat) : List Int :=
  match aas with
  | [] => []
  | x :: aas =>
    if h : j < b.length then
      if x = b[j] then (j : Int) :: mt b aas (j + 1)
      else if lc (x :: aas) (b.drop (j + 1)) ≤ lc aas (b.drop j) then -1 :: mt b aas j
      else mt b (x :: aas) (j + 1)
    else -1 :: mt b aas j
termination_by aas.length + (b.length - j)
def matchT (a b : List ByteArray) : List Int := mt b a 0
theorem mt_nil (b : List ByteArray) (j : Nat) : mt b [] j = [] := by rw [mt]
theorem mt_next {a b : List ByteArray} {i j : Nat} (hi : i < a.length) (hj : j < b.length) (e : a[i] = b[j]) : mt b (a.drop i) j = (j : Int) :: mt b (a.drop (i + 1)) (j + 1) := by
  rw [drop_cons a i hi, mt, dif_pos hj, if_pos e]
theorem mt_skip {a b : List ByteArray} {i j : Nat} (hi : i < a.length) (hj : j < b.length) (e : ¬ a[i] = b[j]) (h : lcAt a b i (j + 1) ≤ lcAt a b (i + 1) j) : mt b (a.drop i) j = -1 :: mt b (a.drop (i + 1)) j := by
  rw [drop_cons a i hi, mt, dif_pos hj, if_neg e, if_pos]
  unfold lcAt at h
  rw [drop_cons a i hi] at h
  omega
theorem mt_over {a b : List ByteArray} {i j : Nat} (hi : i < a.length) (hj : j < b.length) (e : ¬ a[i] = b[j]) (h : ¬ lcAt a b i (j + 1) ≤ lcAt a b (i + 1) j) : mt b (a.drop i) j = mt b (a.drop i) (j + 1) := by
  rw [drop_cons a i hi, mt, dif_pos hj, if_neg e, if_neg]
  unfold lcAt at h
  rw [drop_cons a i hi] at h
  omega
theorem mt_end {a b : List ByteArray} {i j : Nat} (hi : i < a.length) (hj : ¬ j < b.length) : mt b (a.drop i) j = -1 :: mt b (a.drop (i + 1)) j := by
  rw [drop_cons a i hi, mt, dif_neg hj]
theorem mtS_next {a b : List ByteArray} {i j : Nat} {M ol : List Int} (H : M = ol ++ mt b (a.drop i) j) (hi : i < a.length) (hj : j < b.length) (e : a[i] = b[j]) : M = (ol ++ [(j : Int)]) ++ mt b (a.drop (i + 1)) (j + 1) := by
  rw [H, mt_next hi hj e, List.append_assoc]; rfl
theorem mtS_skip {a b : List ByteArray} {i j : Nat} {M ol : List Int} (H : M = ol ++ mt b (a.drop i) j) (hi : i < a.length) (hj : j < b.length) (e : ¬ a[i] = b[j]) (h : lcAt a b i (j + 1) ≤ lcAt a b (i + 1) j) : M = (ol ++ [-1]) ++ mt b (a.drop (i + 1)) j := by
  rw [H, mt_skip hi hj e h, List.append_assoc]; rfl
theorem mtS_over {a b : List ByteArray} {i j : Nat} {M ol : List Int} (H : M = ol ++ mt b (a.drop i) j) (hi : i < a.length) (hj : j < b.length) (e : ¬ a[i] = b[j]) (h : ¬ lcAt a b i (j + 1) ≤ lcAt a b (i + 1) j) : M = ol ++ mt b (a.drop i) (j + 1) := by
  rw [H, mt_over hi hj e h]
theorem mtS_end {a b : List ByteArray} {i j : Nat} {M ol : List Int} (H : M = ol ++ mt b (a.drop i) j) (hi : i < a.length) (hj : ¬ j < b.length) : M = (ol ++ [-1]) ++ mt b (a.drop (i + 1)) j := by
  rw [H, mt_end hi hj, List.append_assoc]; rfl
theorem mtS_out {a b : List ByteArray} {i j : Nat} {M ol : List Int} (H : M = ol ++ mt b (a.drop i) j) (hi : ¬ i < a.length) : M = ol := by
  rw [H, drop_nil a i hi, mt_nil, List.append_nil]
theorem mt_len (b aas : List ByteArray) (j : Nat) : (mt b aas j).length = aas.length := by
  induction aas, j using mt.induct (b := b) with
  | case1 j => rw [mt_nil]; rfl
  | case2 j aas hj ih => rw [mt, dif_pos hj, if_pos rfl]; simp [ih]
  | case3 x j aas hj e h ih => rw [mt, dif_pos hj, if_neg e, if_pos h]; simp [ih]
  | case4 x j aas hj e h ih => rw [mt, dif_pos hj, if_neg e, if_neg h]; exact ih
  | case5 x j aas hj ih => rw [mt, dif_neg hj]; simp [ih]
theorem matchT_len (a b : List ByteArray) : (matchT a b).length = a.length := mt_len b a 0

/-- numbers from lo on that ascend below hi, and -1 between -/
def incM (hi : Nat) : Nat → List Int → Prop
  | _, [] => True
  | lo, m :: ms => (m = -1 ∧ incM hi lo ms) ∨ ∃ k : Nat, m = (k : Int) ∧ lo ≤ k ∧ k < hi ∧ incM hi (k + 1) ms
theorem incM_lo {hi : Nat} : ∀ {ms : List Int} {lo lo' : Nat}, lo' ≤ lo → incM hi lo ms → incM hi lo' ms
  | [], _, _, _, _ => trivial
  | m :: ms, lo, lo', h, .inl ⟨h1, h2⟩ => .inl ⟨h1, incM_lo h h2⟩
  | m :: ms, lo, lo', h, .inr ⟨k, h1, h2, h3, h4⟩ => .inr ⟨k, h1, by omega, h3, h4⟩
theorem incM_snoc {hi : Nat} : ∀ {ms : List Int} {lo : Nat}, lo ≤ hi → incM hi lo ms → incM (hi + 1) lo (ms ++ [(hi : Int)])
  | [], lo, h, _ => .inr ⟨hi, rfl, h, by omega, trivial⟩
  | m :: ms, lo, h, .inl ⟨h1, h2⟩ => .inl ⟨h1, incM_snoc h h2⟩
  | m :: ms, lo, h, .inr ⟨k, h1, h2, h3, h4⟩ => .inr ⟨k, h1, h2, by omega, incM_snoc (by omega) h4⟩
theorem mt_inc (b aas : List ByteArray) (j : Nat) : incM b.length j (mt b aas j) := by
  induction aas, j using mt.induct (b := b) with
  | case1 j => rw [mt_nil]; trivial
  | case2 j aas hj ih => rw [mt, dif_pos hj, if_pos rfl]; exact .inr ⟨j, rfl, Nat.le_refl _, hj, ih⟩
  | case3 x j aas hj e h ih => rw [mt, dif_pos hj, if_neg e, if_pos h]; exact .inl ⟨rfl, ih⟩
  | case4 x j aas hj e h ih => rw [mt, dif_pos hj, if_neg e, if_neg h]; exact incM_lo (by omega) ih
  | case5 x j aas hj ih => rw [mt, dif_neg hj]; exact .inl ⟨rfl, ih⟩
theorem matchT_inc (a b : List ByteArray) : incM (b.length + 1) 0 (matchT a b ++ [(b.length : Int)]) := incM_snoc (Nat.zero_le _) (mt_inc b a 0)
/-- the place k of such -/
theorem incM_at {hi lo : Nat} {ms : List Int} {k : Nat} (h : incM hi lo (ms.drop k)) (hk : k < ms.length) : (ms[k] = -1 ∧ incM hi lo (ms.drop (k + 1))) ∨ ∃ n : Nat, ms[k] = (n : Int) ∧ lo ≤ n ∧ n < hi ∧ incM hi (n + 1) (ms.drop (k + 1)) := by
  rw [drop_cons ms k hk] at h
  exact h
end Go.Vc
