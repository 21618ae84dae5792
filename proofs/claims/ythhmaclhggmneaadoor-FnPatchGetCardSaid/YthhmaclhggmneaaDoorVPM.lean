/-
  Plain functions: what two texts have together, and which line of one is which of the other. No program is in sight here. / Plain functions: differences and patches. No program is in sight here. / Plain law: the differences of two texts, put into the first, make the second. No program is in sight here.
-/
import Derived.Test.YthhmaclhggmneaaDoorVA
import Derived.Test.YthhmaclhggmneaaDoorVP1
set_option linter.unusedVariables false
namespace Go.Vc

/-- how many lines two texts have together at most, in order -/
def lc : List ByteArray → List ByteArray → Nat
  | [], _ => 0
  | _ :: _, [] => 0
  | x :: aas, y :: bs => if x = y then lc aas bs + 1 else max (lc aas (y :: bs)) (lc (x :: aas) bs)
termination_by a b => a.length + b.length
theorem lc_nil (b : List ByteArray) : lc [] b = 0 := by rw [lc]
theorem lc_nil_r (a : List ByteArray) : lc a [] = 0 := by cases a <;> rw [lc]
theorem lc_eq {x y : ByteArray} (aas bs : List ByteArray) (h : x = y) : lc (x :: aas) (y :: bs) = lc aas bs + 1 := by rw [lc, if_pos h]
theorem lc_ne {x y : ByteArray} (aas bs : List ByteArray) (h : ¬ x = y) : lc (x :: aas) (y :: bs) = max (lc aas (y :: bs)) (lc (x :: aas) bs) := by rw [lc, if_neg h]
theorem lc_le (a b : List ByteArray) : lc a b ≤ a.length ∧ lc a b ≤ b.length := by
  induction a, b using lc.induct with
  | case1 b => simp [lc_nil]
  | case2 x aas => simp [lc_nil_r]
  | case3 aas y bs ih => rw [lc_eq _ _ rfl]; simp; omega
  | case4 x aas y bs h ih1 ih2 => rw [lc_ne _ _ h]; simp at *; omega
/-- what is at row i, column j -/
def lcAt (a b : List ByteArray) (i j : Nat) : Int := (lc (a.drop i) (b.drop j) : Int)
theorem lcAt_endA (a b : List ByteArray) (j : Nat) : lcAt a b a.length j = 0 := by unfold lcAt; rw [List.drop_length, lc_nil]; rfl
theorem lcAt_endB (a b : List ByteArray) (i : Nat) : lcAt a b i b.length = 0 := by unfold lcAt; rw [List.drop_length, lc_nil_r]; rfl
theorem lcAt_eq {a b : List ByteArray} {i j : Nat} (hi : i < a.length) (hj : j < b.length) (h : a[i] = b[j]) : lcAt a b i j = lcAt a b (i + 1) (j + 1) + 1 := by
  unfold lcAt
  rw [drop_cons a i hi, drop_cons b j hj, lc_eq _ _ h]; rfl
theorem lcAt_ne {a b : List ByteArray} {i j : Nat} (hi : i < a.length) (hj : j < b.length) (h : ¬ a[i] = b[j]) : lcAt a b i j = max (lcAt a b (i + 1) j) (lcAt a b i (j + 1)) := by
  unfold lcAt
  rw [drop_cons a i hi, drop_cons b j hj, lc_ne _ _ h, ← drop_cons a i hi, ← drop_cons b j hj]
  omega
theorem lcAt_ne' {a b : List ByteArray} {i j : Nat} (hi : i < a.length) (hj : j < b.length) (h : ¬ a[i] = b[j]) : lcAt a b i j = if lcAt a b (i + 1) j < lcAt a b i (j + 1) then lcAt a b i (j + 1) else lcAt a b (i + 1) j := by
  rw [lcAt_ne hi hj h]
  split <;> omega
theorem lcAt_le (a b : List ByteArray) (i j : Nat) : 0 ≤ lcAt a b i j ∧ lcAt a b i j ≤ a.length := by
  unfold lcAt
  have := (lc_le (a.drop i) (b.drop j)).1
  simp at this; omega

/-- a row of the table: all from column j on is there, or, of a row that is done, all -/
def rowS (a b : List ByteArray) (i j r : Nat) : List Int := (List.range (b.length + 1)).map fun c => if i ≤ r ∨ (r + 1 = i ∧ j ≤ c) then lcAt a b r c else 0
/-- the table: rows from i on are done, and of the one ahead all from column j on -/
def tabS (a b : List ByteArray) (i j : Nat) : List (List Int) := (List.range (a.length + 1)).map fun r => rowS a b i j r
theorem rowS_len (a b : List ByteArray) (i j r : Nat) : (rowS a b i j r).length = b.length + 1 := by simp [rowS]
theorem tabS_len (a b : List ByteArray) (i j : Nat) : (tabS a b i j).length = a.length + 1 := by simp [tabS]
theorem tabS_at (a b : List ByteArray) (i j r : Nat) (h : r < (tabS a b i j).length) : (tabS a b i j)[r] = rowS a b i j r := by simp [tabS]
theorem rowS_at (a b : List ByteArray) (i j r c : Nat) (h : c < (rowS a b i j r).length) : (rowS a b i j r)[c] = if i ≤ r ∨ (r + 1 = i ∧ j ≤ c) then lcAt a b r c else 0 := by simp [rowS]
theorem rowS_done {a b : List ByteArray} {i j r c : Nat} (h : c < (rowS a b i j r).length) (h1 : i ≤ r ∨ (r + 1 = i ∧ j ≤ c)) : (rowS a b i j r)[c] = lcAt a b r c := by rw [rowS_at, if_pos h1]
theorem rowS_same (a b : List ByteArray) (i j i' j' r : Nat) (h : ∀ c, c ≤ b.length → (if i ≤ r ∨ (r + 1 = i ∧ j ≤ c) then lcAt a b r c else 0) = (if i' ≤ r ∨ (r + 1 = i' ∧ j' ≤ c) then lcAt a b r c else 0)) : rowS a b i j r = rowS a b i' j' r := by
  unfold rowS
  refine List.map_congr_left fun c hc => h c ?_
  simp at hc; omega
theorem tabS_start (a b : List ByteArray) : tabS a b a.length b.length = List.replicate (a.length + 1) (List.replicate (b.length + 1) 0) := by
  unfold tabS
  refine List.ext_getElem (by simp) fun r h1 h2 => ?_
  simp only [List.getElem_map, List.getElem_range, List.getElem_replicate]
  unfold rowS
  refine List.ext_getElem (by simp) fun c h3 h4 => ?_
  simp only [List.getElem_map, List.getElem_range, List.getElem_replicate]
  simp at h1 h3
  split
  · rename_i h
    rcases h with h | ⟨h, h'⟩
    · obtain rfl : r = a.length := by omega
      exact lcAt_endA a b c
    · obtain rfl : c = b.length := by omega
      exact lcAt_endB a b r
  · rfl
theorem tabS_row (a b : List ByteArray) (i : Nat) : tabS a b (i + 1) 0 = tabS a b i b.length := by
  unfold tabS
  refine List.map_congr_left fun r hr => rowS_same a b _ _ _ _ r fun c hc => ?_
  simp at hr
  by_cases h1 : i ≤ r
  · rw [if_pos (by omega), if_pos (.inl h1)]
  · rw [if_neg (by omega)]
    split
    · rename_i h
      obtain rfl : c = b.length := by omega
      exact (lcAt_endB a b r).symm
    · rfl
theorem tabS_zero (a b : List ByteArray) (j : Nat) : tabS a b 0 j = tabS a b 0 0 := by
  unfold tabS
  refine List.map_congr_left fun r hr => rowS_same a b _ _ _ _ r fun c hc => ?_
  rw [if_pos (.inl (Nat.zero_le _)), if_pos (.inl (Nat.zero_le _))]
theorem tabS_set {a b : List ByteArray} {i j : Nat} (hi : i < a.length) (hj : j < b.length) :
    (tabS a b (i + 1) (j + 1)).set i ((rowS a b (i + 1) (j + 1) i).set j (lcAt a b i j)) = tabS a b (i + 1) j := by
  refine List.ext_getElem (by simp [tabS]) fun r h1 h2 => ?_
  rw [List.getElem_set, tabS_at, tabS_at]
  split
  · rename_i h
    subst h
    refine List.ext_getElem (by simp [rowS]) fun c h3 h4 => ?_
    rw [List.getElem_set, rowS_at, rowS_at]
    by_cases hc : j = c
    · subst hc
      rw [if_pos rfl, if_pos (by omega)]
    · rw [if_neg hc]
      by_cases h5 : j ≤ c
      · rw [if_pos (by omega), if_pos (by omega)]
      · rw [if_neg (by omega), if_neg (by omega)]
  · rename_i h
    refine rowS_same a b _ _ _ _ r fun c hc => ?_
    by_cases h5 : i + 1 ≤ r
    · rw [if_pos (.inl h5), if_pos (.inl h5)]
    · rw [if_neg (by omega), if_neg (by omega)]

/-- of each line of a text which of b's it is, from b's line j on; -1, if it is none -/
def mt (b : List ByteArray) (aas : List ByteArray) (j : Nat) : List Int :=
  match aas with
  | [] => []
  | x :: aas =>
    if h : j < b.length then
      if x = b[j] then (j : Int) :: mt b aas (j + 1)
      else if lc (x :: aas) (b.drop (j + 1)) ≤ lc aas (b.drop j) then -1 :: mt b aas j
      else mt b (x :: aas) (j + 1)
    else -1 :: mt b aas j
termination_by aas.length + (b.length - j)
def matchT (a b : List ByteArray) : List Int := mt b a 0
theorem mt_nil (b : List ByteArray) (j : Nat) : mt b [] j = [] := by rw [mt]
theorem mt_next {a b : List ByteArray} {i j : Nat} (hi : i < a.length) (hj : j < b.length) (e : a[i] = b[j]) : mt b (a.drop i) j = (j : Int) :: mt b (a.drop (i + 1)) (j + 1) := by
  rw [drop_cons a i hi, mt, dif_pos hj, if_pos e]
theorem mt_skip {a b : List ByteArray} {i j : Nat} (hi : i < a.length) (hj : j < b.length) (e : ¬ a[i] = b[j]) (h : lcAt a b i (j + 1) ≤ lcAt a b (i + 1) j) : mt b (a.drop i) j = -1 :: mt b (a.drop (i + 1)) j := by
  rw [drop_cons a i hi, mt, dif_pos hj, if_neg e, if_pos]
  unfold lcAt at h
  rw [drop_cons a i hi] at h
  omega
theorem mt_over {a b : List ByteArray} {i j : Nat} (hi : i < a.length) (hj : j < b.length) (e : ¬ a[i] = b[j]) (h : ¬ lcAt a b i (j + 1) ≤ lcAt a b (i + 1) j) : mt b (a.drop i) j = mt b (a.drop i) (j + 1) := by
  rw [drop_cons a i hi, mt, dif_pos hj, if_neg e, if_neg]
  unfold lcAt at h
  rw [drop_cons a i hi] at h
  omega
theorem mt_end {a b : List ByteArray} {i j : Nat} (hi : i < a.length) (hj : ¬ j < b.length) : mt b (a.drop i) j = -1 :: mt b (a.drop (i + 1)) j := by
  rw [drop_cons a i hi, mt, dif_neg hj]
theorem mtS_next {a b : List ByteArray} {i j : Nat} {M ol : List Int} (H : M = ol ++ mt b (a.drop i) j) (hi : i < a.length) (hj : j < b.length) (e : a[i] = b[j]) : M = (ol ++ [(j : Int)]) ++ mt b (a.drop (i + 1)) (j + 1) := by
  rw [H, mt_next hi hj e, List.append_assoc]; rfl
theorem mtS_skip {a b : List ByteArray} {i j : Nat} {M ol : List Int} (H : M = ol ++ mt b (a.drop i) j) (hi : i < a.length) (hj : j < b.length) (e : ¬ a[i] = b[j]) (h : lcAt a b i (j + 1) ≤ lcAt a b (i + 1) j) : M = (ol ++ [-1]) ++ mt b (a.drop (i + 1)) j := by
  rw [H, mt_skip hi hj e h, List.append_assoc]; rfl
theorem mtS_over {a b : List ByteArray} {i j : Nat} {M ol : List Int} (H : M = ol ++ mt b (a.drop i) j) (hi : i < a.length) (hj : j < b.length) (e : ¬ a[i] = b[j]) (h : ¬ lcAt a b i (j + 1) ≤ lcAt a b (i + 1) j) : M = ol ++ mt b (a.drop i) (j + 1) := by
  rw [H, mt_over hi hj e h]
theorem mtS_end {a b : List ByteArray} {i j : Nat} {M ol : List Int} (H : M = ol ++ mt b (a.drop i) j) (hi : i < a.length) (hj : ¬ j < b.length) : M = (ol ++ [-1]) ++ mt b (a.drop (i + 1)) j := by
  rw [H, mt_end hi hj, List.append_assoc]; rfl
theorem mtS_out {a b : List ByteArray} {i j : Nat} {M ol : List Int} (H : M = ol ++ mt b (a.drop i) j) (hi : ¬ i < a.length) : M = ol := by
  rw [H, drop_nil a i hi, mt_nil, List.append_nil]
theorem mt_len (b aas : List ByteArray) (j : Nat) : (mt b aas j).length = aas.length := by
  induction aas, j using mt.induct (b := b) with
  | case1 j => rw [mt_nil]; rfl
  | case2 j aas hj ih => rw [mt, dif_pos hj, if_pos rfl]; simp [ih]
  | case3 x j aas hj e h ih => rw [mt, dif_pos hj, if_neg e, if_pos h]; simp [ih]
  | case4 x j aas hj e h ih => rw [mt, dif_pos hj, if_neg e, if_neg h]; exact ih
  | case5 x j aas hj ih => rw [mt, dif_neg hj]; simp [ih]
theorem matchT_len (a b : List ByteArray) : (matchT a b).length = a.length := mt_len b a 0

/-- numbers from lo on that ascend below hi, and -1 between -/
def incM (hi : Nat) : Nat → List Int → Prop
  | _, [] => True
  | lo, m :: ms => (m = -1 ∧ incM hi lo ms) ∨ ∃ k : Nat, m = (k : Int) ∧ lo ≤ k ∧ k < hi ∧ incM hi (k + 1) ms
theorem incM_lo {hi : Nat} : ∀ {ms : List Int} {lo lo' : Nat}, lo' ≤ lo → incM hi lo ms → incM hi lo' ms
  | [], _, _, _, _ => trivial
  | m :: ms, lo, lo', h, .inl ⟨h1, h2⟩ => .inl ⟨h1, incM_lo h h2⟩
  | m :: ms, lo, lo', h, .inr ⟨k, h1, h2, h3, h4⟩ => .inr ⟨k, h1, by omega, h3, h4⟩
theorem incM_snoc {hi : Nat} : ∀ {ms : List Int} {lo : Nat}, lo ≤ hi → incM hi lo ms → incM (hi + 1) lo (ms ++ [(hi : Int)])
  | [], lo, h, _ => .inr ⟨hi, rfl, h, by omega, trivial⟩
  | m :: ms, lo, h, .inl ⟨h1, h2⟩ => .inl ⟨h1, incM_snoc h h2⟩
  | m :: ms, lo, h, .inr ⟨k, h1, h2, h3, h4⟩ => .inr ⟨k, h1, h2, by omega, incM_snoc (by omega) h4⟩
theorem mt_inc (b aas : List ByteArray) (j : Nat) : incM b.length j (mt b aas j) := by
  induction aas, j using mt.induct (b := b) with
  | case1 j => rw [mt_nil]; trivial
  | case2 j aas hj ih => rw [mt, dif_pos hj, if_pos rfl]; exact .inr ⟨j, rfl, Nat.le_refl _, hj, ih⟩
  | case3 x j aas hj e h ih => rw [mt, dif_pos hj, if_neg e, if_pos h]; exact .inl ⟨rfl, ih⟩
  | case4 x j aas hj e h ih => rw [mt, dif_pos hj, if_neg e, if_neg h]; exact incM_lo (by omega) ih
  | case5 x j aas hj ih => rw [mt, dif_neg hj]; exact .inl ⟨rfl, ih⟩
theorem matchT_inc (a b : List ByteArray) : incM (b.length + 1) 0 (matchT a b ++ [(b.length : Int)]) := incM_snoc (Nat.zero_le _) (mt_inc b a 0)
/-- the place k of such -/
theorem incM_at {hi lo : Nat} {ms : List Int} {k : Nat} (h : incM hi lo (ms.drop k)) (hk : k < ms.length) : (ms[k] = -1 ∧ incM hi lo (ms.drop (k + 1))) ∨ ∃ n : Nat, ms[k] = (n : Int) ∧ lo ≤ n ∧ n < hi ∧ incM hi (n + 1) (ms.drop (k + 1)) := by
  rw [drop_cons ms k hk] at h
  exact h
end Go.Vc
namespace Go.Vc

/-- lines f to i -/
def cutF (a : List ByteArray) (f i : Nat) : List ByteArray := (a.drop f).take (i - f)
theorem cutF_len {a : List ByteArray} {f i : Nat} (h1 : f ≤ i) (h2 : i ≤ a.length) : (cutF a f i).length = i - f := by unfold cutF; simp; omega

/-- what must be taken out, and put in, between lines that are one -/
def df (a b : List ByteArray) : List Int → Nat → Nat → Nat → List Hunk
  | [], _, _, _ => []
  | m :: ms, i, fa, fb =>
    if m < 0 then df a b ms (i + 1) fa fb
    else if fa < i ∨ fb < m.toNat then ⟨fa, cutF a fa i, cutF b fb m.toNat⟩ :: df a b ms (i + 1) (i + 1) (m.toNat + 1)
    else df a b ms (i + 1) (i + 1) (m.toNat + 1)
def pairsT (a b : List ByteArray) : List Int := matchT a b ++ [(b.length : Int)]
theorem pairsT_len (a b : List ByteArray) : (pairsT a b).length = a.length + 1 := by simp [pairsT, matchT_len]
def diffT (a b : List ByteArray) : List Hunk := df a b (pairsT a b) 0 0 0
section
variable {a b : List ByteArray} {ps : List Int} {D ol : List Hunk} {i fa fb : Nat}
theorem df_neg (H : D = ol ++ df a b (ps.drop i) i fa fb) (hi : i < ps.length) (h : ps[i] < 0) : D = ol ++ df a b (ps.drop (i + 1)) (i + 1) fa fb := by
  rw [H, drop_cons ps i hi, df, if_pos h]
theorem df_put {n : Nat} (H : D = ol ++ df a b (ps.drop i) i fa fb) (hi : i < ps.length) (e : ps[i] = (n : Int)) (h : fa < i ∨ fb < n) : D = (ol ++ [⟨fa, cutF a fa i, cutF b fb n⟩]) ++ df a b (ps.drop (i + 1)) (i + 1) (i + 1) (n + 1) := by
  rw [H, drop_cons ps i hi, df, if_neg (by omega), e, Int.toNat_natCast, if_pos h, List.append_assoc]; rfl
theorem df_no {n : Nat} (H : D = ol ++ df a b (ps.drop i) i fa fb) (hi : i < ps.length) (e : ps[i] = (n : Int)) (h : ¬ (fa < i ∨ fb < n)) : D = ol ++ df a b (ps.drop (i + 1)) (i + 1) (i + 1) (n + 1) := by
  rw [H, drop_cons ps i hi, df, if_neg (by omega), e, Int.toNat_natCast, if_neg h]
theorem df_end (H : D = ol ++ df a b (ps.drop i) i fa fb) (hi : ¬ i < ps.length) : D = ol := by
  rw [H, drop_nil ps i hi, df, List.append_nil]
end
theorem df_len (a b : List ByteArray) : ∀ (ms : List Int) (i fa fb : Nat), (df a b ms i fa fb).length ≤ ms.length
  | [], _, _, _ => by simp [df]
  | m :: ms, i, fa, fb => by
    rw [df]
    split
    · have := df_len a b ms (i + 1) fa fb; simp; omega
    · split
      · have := df_len a b ms (i + 1) (i + 1) (m.toNat + 1); simp; omega
      · have := df_len a b ms (i + 1) (i + 1) (m.toNat + 1); simp; omega
theorem diffT_len (a b : List ByteArray) : (diffT a b).length ≤ a.length + 1 := by
  have := df_len a b (pairsT a b) 0 0 0
  rw [pairsT_len] at this
  exact this
theorem df_lines (a b : List ByteArray) : ∀ (ms : List Int) (i fa fb : Nat) (h : Hunk), h ∈ df a b ms i fa fb → h.less.length ≤ a.length ∧ h.more.length ≤ b.length
  | [], _, _, _, h, hm => by simp [df] at hm
  | m :: ms, i, fa, fb, h, hm => by
    rw [df] at hm
    split at hm
    · exact df_lines a b ms _ _ _ h hm
    · split at hm
      · rcases List.mem_cons.1 hm with rfl | hm
        · simp only [cutF, List.length_take, List.length_drop]; omega
        · exact df_lines a b ms _ _ _ h hm
      · exact df_lines a b ms _ _ _ h hm

/-- one piece of a patch is ok -/
def hunkB (h : Hunk) : Bool := withinB h.at_ 0 10 && textB h.less && textB h.more && decide (0 < h.less.length + h.more.length)
theorem hunkB_iff (h : Hunk) : hunkB h = true ↔ (0 ≤ h.at_ ∧ h.at_ ≤ 10) ∧ textB h.less = true ∧ textB h.more = true ∧ 0 < h.less.length + h.more.length := by
  simp [hunkB, withinB, and_assoc]
def noHunk : Hunk := ⟨0, [], []⟩
/-- piece i comes behind the one ahead of it -/
def gapB (d : List Hunk) (i : Nat) : Bool := decide (i = 0) || decide ((d.getD (i - 1) noHunk).at_ + (d.getD (i - 1) noHunk).less.length < (d.getD i noHunk).at_)
def hunksB (d : List Hunk) : Bool := decide (∀ i, i < d.length → hunkB (d.getD i noHunk) = true ∧ gapB d i = true)
def patchB (d : List Hunk) : Bool := decide (d.length ≤ 8) && hunksB d
theorem hunksB_t {d : List Hunk} (h : ∀ i, i < d.length → hunkB (d.getD i noHunk) = true ∧ gapB d i = true) : hunksB d = true := decide_eq_true h
theorem hunksB_f {d : List Hunk} {i : Nat} (hi : i < d.length) (h : ¬ (hunkB (d.getD i noHunk) = true ∧ gapB d i = true)) : hunksB d = false := decide_eq_false fun hh => h (hh i hi)
theorem getD_hunk {d : List Hunk} {i : Nat} (h : i < d.length) : d.getD i noHunk = d[i] := by simp [List.getD, h]
theorem patchB_iff (d : List Hunk) : patchB d = true ↔ d.length ≤ 8 ∧ ∀ i, i < d.length → hunkB (d.getD i noHunk) = true ∧ gapB d i = true := by simp [patchB, hunksB]
theorem gapB_pos {d : List Hunk} {i : Nat} (h0 : 0 < i) (h : i < d.length) : gapB d i = decide (d[i - 1].at_ + d[i - 1].less.length < d[i].at_) := by
  unfold gapB
  rw [getD_hunk h, getD_hunk (by omega), decide_eq_false (by omega : ¬ i = 0), Bool.false_or]
theorem patch_at {d : List Hunk} (h : patchB d = true) {i : Nat} (hi : i < d.length) : 0 ≤ d[i].at_ ∧ d[i].at_ ≤ 10 ∧ textB d[i].less = true ∧ textB d[i].more = true ∧ 0 < d[i].less.length + d[i].more.length := by
  have := (((patchB_iff d).1 h).2 i hi).1
  rw [getD_hunk hi, hunkB_iff] at this
  exact ⟨this.1.1, this.1.2, this.2⟩
theorem patch_gap {d : List Hunk} (h : patchB d = true) {i : Nat} (h0 : 0 < i) (hi : i < d.length) : d[i - 1].at_ + d[i - 1].less.length < d[i].at_ := by
  have := (((patchB_iff d).1 h).2 i hi).2
  rw [gapB_pos h0 hi] at this
  exact of_decide_eq_true this
theorem patch_len {d : List Hunk} (h : patchB d = true) : d.length ≤ 8 := ((patchB_iff d).1 h).1
theorem text_len10 {t : List ByteArray} (h : textB t = true) : t.length ≤ 10 := by simp [textB] at h; exact h.1

/-- all pieces put in -/
def doF (t : List ByteArray) : List Hunk → Nat → List ByteArray → Option (List ByteArray)
  | [], fr, out => some (out ++ t.drop fr)
  | h :: r, fr, out =>
    if t.length < h.at_.toNat + h.less.length then none
    else if (t.drop h.at_.toNat).take h.less.length = h.less then doF t r (h.at_.toNat + h.less.length) (out ++ cutF t fr h.at_.toNat ++ h.more)
    else none
/-- what comes of it: the text, if it is one -/
def pFin : Option (List ByteArray) → List ByteArray × Bool
  | some out => if textB out = true then (out, true) else ([], false)
  | none => ([], false)
def pDoF (t : List ByteArray) (d : List Hunk) : List ByteArray × Bool := pFin (doF t d 0 [])
def pDo (t : List ByteArray) (d : List Hunk) : List ByteArray × Bool := if textB t = true ∧ patchB d = true then pDoF t d else ([], false)
section
variable {t : List ByteArray} {d : List Hunk} {k fr : Nat} {R : Option (List ByteArray)} {out : List ByteArray}
theorem doF_long (H : R = doF t (d.drop k) fr out) (hk : k < d.length) (h : t.length < d[k].at_.toNat + d[k].less.length) : R = none := by
  rw [H, drop_cons d k hk, doF, if_pos h]
theorem doF_other (H : R = doF t (d.drop k) fr out) (hk : k < d.length) (h : ¬ (t.drop d[k].at_.toNat).take d[k].less.length = d[k].less) : R = none := by
  rw [H, drop_cons d k hk, doF]
  split
  · rfl
  · first | rfl | rw [if_neg h]
theorem doF_next (H : R = doF t (d.drop k) fr out) (hk : k < d.length) (h1 : ¬ t.length < d[k].at_.toNat + d[k].less.length) (h : (t.drop d[k].at_.toNat).take d[k].less.length = d[k].less) :
    R = doF t (d.drop (k + 1)) (d[k].at_.toNat + d[k].less.length) (out ++ cutF t fr d[k].at_.toNat ++ d[k].more) := by
  rw [H, drop_cons d k hk, doF, if_neg h1, if_pos h]
theorem doF_end (H : R = doF t (d.drop k) fr out) (hk : ¬ k < d.length) : R = some (out ++ t.drop fr) := by
  rw [H, drop_nil d k hk, doF]
end
theorem pDo_bad1 {t : List ByteArray} {d : List Hunk} (h : textB t = false) : pDo t d = ([], false) := by rw [pDo, if_neg (by rw [h]; simp)]
theorem pDo_bad2 {t : List ByteArray} {d : List Hunk} (h : patchB d = false) : pDo t d = ([], false) := by rw [pDo, if_neg (by rw [h]; simp)]
theorem pDo_ok {t : List ByteArray} {d : List Hunk} (h1 : textB t = true) (h2 : patchB d = true) : pDo t d = pDoF t d := by rw [pDo, if_pos ⟨h1, h2⟩]
theorem pDoF_none {t : List ByteArray} {d : List Hunk} {R : Option (List ByteArray)} (h : R = none) (e : doF t d 0 [] = R) : pDoF t d = ([], false) := by rw [pDoF, e, h]; rfl
theorem pDoF_long {t : List ByteArray} {d : List Hunk} {out : List ByteArray} (e : doF t d 0 [] = some out) (h : textB out = false) : pDoF t d = ([], false) := by rw [pDoF, e, pFin, if_neg (by rw [h]; simp)]
theorem pDoF_some {t : List ByteArray} {d : List Hunk} {out : List ByteArray} (e : doF t d 0 [] = some out) (h : textB out = true) : pDoF t d = (out, true) := by rw [pDoF, e, pFin, if_pos h]

/-- a patch taken back -/
def backF : List Hunk → Int → List Hunk
  | [], _ => []
  | h :: r, by_ => ⟨h.at_ + by_, h.more, h.less⟩ :: backF r (by_ + h.more.length - h.less.length)
def backT (d : List Hunk) : List Hunk := if patchB d = true then backF d 0 else []

/-- two patches together -/
def pOver (t : List ByteArray) (a b : List Hunk) : List Hunk × Bool :=
  if (pDo t a).2 = true ∧ (pDo (pDo t a).1 b).2 = true then (diffT t (pDo (pDo t a).1 b).1, true) else ([], false)
theorem pOver_bad1 {t : List ByteArray} {a b : List Hunk} (h : (pDo t a).2 = false) : pOver t a b = ([], false) := by rw [pOver, if_neg (by rw [h]; simp)]
theorem pOver_bad2 {t : List ByteArray} {a b : List Hunk} (h : (pDo (pDo t a).1 b).2 = false) : pOver t a b = ([], false) := by rw [pOver, if_neg (by rw [h]; simp)]
theorem pOver_ok {t : List ByteArray} {a b : List Hunk} (h1 : (pDo t a).2 = true) (h2 : (pDo (pDo t a).1 b).2 = true) : pOver t a b = (diffT t (pDo (pDo t a).1 b).1, true) := by rw [pOver, if_pos ⟨h1, h2⟩]
theorem pDo_text {t : List ByteArray} {d : List Hunk} (h : (pDo t d).2 = true) : textB t = true ∧ patchB d = true ∧ textB (pDo t d).1 = true := by
  unfold pDo at h ⊢
  by_cases hc : textB t = true ∧ patchB d = true
  · rw [if_pos hc] at h ⊢
    refine ⟨hc.1, hc.2, ?_⟩
    unfold pDoF at h ⊢
    cases hd : doF t d 0 [] with
    | none => rw [hd] at h; cases h
    | some out =>
      rw [hd] at h
      unfold pFin at h ⊢
      by_cases h3 : textB out = true
      · simp [h3]
      · simp [h3] at h
  · rw [if_neg hc] at h
    cases h

/-- two pieces have a line between -/
def apartB (x y : Hunk) : Bool := decide (x.at_ + x.less.length < y.at_) || decide (y.at_ + y.less.length < x.at_)
def freeF (a b : List Hunk) : Bool := a.all fun x => b.all fun y => apartB x y
def freeB (a b : List Hunk) : Bool := patchB a && patchB b && freeF a b
/-- a patch as it is behind another one -/
def shiftAt (a : List Hunk) (y : Hunk) : Int := a.foldl (fun at_ x => if x.at_ < y.at_ then at_ + x.more.length - x.less.length else at_) y.at_
def shiftF (a b : List Hunk) : List Hunk := b.map fun y => ⟨shiftAt a y, y.less, y.more⟩
def shiftT (a b : List Hunk) : List Hunk := if freeB a b = true then shiftF a b else []
end Go.Vc
namespace Go.Vc

/-- pairs of lines that are one, up to the ends -/
def okM (a b : List ByteArray) : List Int → Nat → Nat → Nat → Prop
  | [], i, fa, fb => i = a.length + 1 ∧ fa = i ∧ fb = b.length + 1
  | m :: ms, i, fa, fb => (m = -1 ∧ i < a.length ∧ okM a b ms (i + 1) fa fb) ∨
      ∃ k : Nat, m = (k : Int) ∧ fb ≤ k ∧ k ≤ b.length ∧ ((∃ (hi : i < a.length) (hk : k < b.length), a[i] = b[k]) ∨ (i = a.length ∧ k = b.length)) ∧ okM a b ms (i + 1) (i + 1) (k + 1)
theorem mt_ok (a b : List ByteArray) (r : List ByteArray) (j : Nat) : ∀ (i fa fb : Nat), r = a.drop i → i ≤ a.length → fb ≤ j → j ≤ b.length → okM a b (mt b r j ++ [(b.length : Int)]) i fa fb := by
  induction r, j using mt.induct (b := b) with
  | case1 j =>
    intro i fa fb ha hi hf hj
    have : a.length ≤ i := by
      have := congrArg List.length ha
      simp at this; omega
    obtain rfl : i = a.length := by omega
    rw [mt_nil, List.nil_append]
    exact .inr ⟨b.length, rfl, by omega, Nat.le_refl _, .inr ⟨rfl, rfl⟩, rfl, rfl, rfl⟩
  | case2 j r hj ih =>
    intro i fa fb ha hi hf hjl
    have hl : i < a.length := by
      have := congrArg List.length ha
      simp at this; omega
    rw [drop_cons a i hl] at ha
    injection ha with e1 e2
    rw [mt, dif_pos hj, if_pos rfl, List.cons_append]
    exact .inr ⟨j, rfl, hf, hjl, .inl ⟨hl, hj, e1.symm⟩, ih (i + 1) (i + 1) (j + 1) e2 hl (Nat.le_refl _) hj⟩
  | case3 x j r hj e h ih =>
    intro i fa fb ha hi hf hjl
    have hl : i < a.length := by
      have := congrArg List.length ha
      simp at this; omega
    rw [drop_cons a i hl] at ha
    injection ha with e1 e2
    rw [mt, dif_pos hj, if_neg e, if_pos h, List.cons_append]
    exact .inl ⟨rfl, hl, ih (i + 1) fa fb e2 hl hf hjl⟩
  | case4 x j r hj e h ih =>
    intro i fa fb ha hi hf hjl
    rw [mt, dif_pos hj, if_neg e, if_neg h]
    exact ih i fa fb ha hi (by omega) hj
  | case5 x j r hj ih =>
    intro i fa fb ha hi hf hjl
    have hl : i < a.length := by
      have := congrArg List.length ha
      simp at this; omega
    rw [drop_cons a i hl] at ha
    injection ha with e1 e2
    rw [mt, dif_neg hj, List.cons_append]
    exact .inl ⟨rfl, hl, ih (i + 1) fa fb e2 hl hf hjl⟩
theorem pairs_ok (a b : List ByteArray) : okM a b (pairsT a b) 0 0 0 := mt_ok a b a 0 0 0 0 rfl (Nat.zero_le _) (Nat.le_refl _) (Nat.zero_le _)

theorem cutF_same (a : List ByteArray) (f : Nat) : cutF a f f = [] := by simp [cutF]
theorem cutF_all {a : List ByteArray} {f i : Nat} (h : a.length ≤ i) : cutF a f i = a.drop f := by
  unfold cutF
  exact List.take_of_length_le (by simp; omega)
theorem cutF_snoc {a : List ByteArray} {f i : Nat} (h1 : f ≤ i) (h2 : i < a.length) : cutF a f (i + 1) = cutF a f i ++ [a[i]] := by
  unfold cutF
  have e : i + 1 - f = (i - f) + 1 := by omega
  have hl : i - f < (a.drop f).length := by simp; omega
  rw [e, List.take_succ_eq_append_getElem hl]
  congr 2
  rw [List.getElem_drop]
  congr 1
  omega
theorem cutF_take {b : List ByteArray} {f k : Nat} (h : f ≤ k) : b.take f ++ cutF b f k = b.take k := by
  unfold cutF
  have e : k = f + (k - f) := by omega
  conv => rhs; rw [e, List.take_add]
/-- the pieces put in -/
theorem do_df (a b : List ByteArray) : ∀ (ms : List Int) (i fa fb fr : Nat) (out : List ByteArray), okM a b ms i fa fb → fr ≤ fa → fa ≤ i → out ++ cutF a fr fa = b.take fb → doF a (df a b ms i fa fb) fr out = some b
  | [], i, fa, fb, fr, out, ho, h1, h2, he => by
    obtain ⟨r1, r2, r3⟩ := ho
    subst r1; subst r2; subst r3
    rw [df, doF, ← cutF_all (a := a) (f := fr) (i := a.length + 1) (by omega), he, List.take_of_length_le (by omega)]
  | m :: ms, i, fa, fb, fr, out, ho, h1, h2, he => by
    rcases ho with ⟨rfl, hi, ho⟩ | ⟨k, rfl, hf, hk, hm, ho⟩
    · rw [df, if_pos (by omega)]
      exact do_df a b ms (i + 1) fa fb fr out ho h1 (by omega) he
    · have hia : i ≤ a.length := by rcases hm with ⟨h, _⟩ | ⟨h, _⟩ <;> omega
      rw [df, if_neg (by omega), Int.toNat_natCast]
      by_cases hg : fa < i ∨ fb < k
      · rw [if_pos hg, doF]
        have hl := cutF_len (a := a) h2 hia
        simp only [Int.toNat_natCast, hl]
        rw [if_neg (by omega), if_pos (by rfl)]
        have e1 : fa + (i - fa) = i := by omega
        rw [e1]
        refine do_df a b ms (i + 1) (i + 1) (k + 1) i _ ho (by omega) (Nat.le_refl _) ?_
        rw [he, cutF_take hf]
        rcases hm with ⟨h3, h4, h5⟩ | ⟨h3, h4⟩
        · rw [cutF_snoc (Nat.le_refl i) h3, cutF_same, List.nil_append, h5, ← List.take_succ_eq_append_getElem h4]
        · subst h3; subst h4
          rw [cutF_all (a := a) (f := a.length) (by omega), List.drop_length, List.append_nil, List.take_of_length_le (Nat.le_refl _), List.take_of_length_le (by omega)]
      · rw [if_neg hg]
        obtain rfl : fa = i := by omega
        obtain rfl : fb = k := by omega
        refine do_df a b ms (fa + 1) (fa + 1) (fb + 1) fr out ho (by omega) (Nat.le_refl _) ?_
        rcases hm with ⟨h3, h4, h5⟩ | ⟨h3, h4⟩
        · rw [cutF_snoc h1 h3, ← List.append_assoc, he, h5, ← List.take_succ_eq_append_getElem h4]
        · subst h3; subst h4
          rw [cutF_all (by omega), ← cutF_all (a := a) (f := fr) (Nat.le_refl _), he, List.take_of_length_le (Nat.le_refl _), List.take_of_length_le (by omega)]

/-- pieces in order from lo on -/
def chainH (lo : Nat) : List Hunk → Prop
  | [] => True
  | h :: r => (lo : Int) ≤ h.at_ ∧ hunkB h = true ∧ chainH (h.at_.toNat + h.less.length + 1) r
theorem chain_at : ∀ {d : List Hunk} {lo : Nat}, chainH lo d → ∀ (i : Nat) (hi : i < d.length), hunkB d[i] = true ∧ (lo : Int) ≤ d[i].at_
  | h :: r, lo, ⟨h1, h2, h3⟩, 0, _ => ⟨h2, h1⟩
  | h :: r, lo, ⟨h1, h2, h3⟩, i + 1, hi => by
    have := chain_at h3 i (by simpa using hi)
    refine ⟨by simpa using this.1, ?_⟩
    have h4 := this.2
    simp only [List.getElem_cons_succ]
    omega
theorem chain_gap : ∀ {d : List Hunk} {lo : Nat}, chainH lo d → ∀ (i : Nat) (hi : i + 1 < d.length), d[i].at_ + d[i].less.length < d[i + 1].at_
  | h :: r, lo, ⟨h1, h2, h3⟩, 0, hi => by
    have := (chain_at h3 0 (by simpa using hi)).2
    simp only [List.getElem_cons_zero, List.getElem_cons_succ]
    omega
  | h :: r, lo, ⟨h1, h2, h3⟩, i + 1, hi => by
    have := chain_gap h3 i (by simpa using hi)
    simpa using this
theorem chain_patch {d : List Hunk} {lo : Nat} (h : chainH lo d) (hl : d.length ≤ 8) : patchB d = true := by
  refine (patchB_iff d).2 ⟨hl, fun i hi => ⟨?_, ?_⟩⟩
  · rw [getD_hunk hi]; exact (chain_at h i hi).1
  · by_cases h0 : 0 < i
    · rw [gapB_pos h0 hi]
      have := chain_gap h (i - 1) (by omega)
      have e : i - 1 + 1 = i := by omega
      simp only [e] at this
      exact decide_eq_true this
    · unfold gapB
      rw [decide_eq_true (by omega : i = 0), Bool.true_or]
theorem textB_iff' (t : List ByteArray) : textB t = true ↔ t.length ≤ 10 ∧ ∀ s, s ∈ t → lineB s = true := by simp [textB]
theorem textB_cut {a : List ByteArray} (h : textB a = true) (f i : Nat) : textB (cutF a f i) = true := by
  rw [textB_iff'] at h ⊢
  refine ⟨?_, fun s hs => h.2 s (List.mem_of_mem_drop (List.mem_of_mem_take hs))⟩
  have : (cutF a f i).length ≤ a.length := by unfold cutF; simp; omega
  omega
theorem df_chain {a b : List ByteArray} (ha : textB a = true) (hb : textB b = true) : ∀ (ms : List Int) (i fa fb : Nat), okM a b ms i fa fb → fa ≤ i → chainH fa (df a b ms i fa fb) ∧ 3 * (df a b ms i fa fb).length + fa + fb ≤ a.length + 1 + (b.length + 1)
  | [], i, fa, fb, ho, h2 => by
    obtain ⟨r1, r2, r3⟩ := ho
    subst r1; subst r2; subst r3
    exact ⟨trivial, by simp [df]⟩
  | m :: ms, i, fa, fb, ho, h2 => by
    rcases ho with ⟨rfl, hi, ho⟩ | ⟨k, rfl, hf, hk, hm, ho⟩
    · rw [df, if_pos (by omega)]
      exact df_chain ha hb ms (i + 1) fa fb ho (by omega)
    · have hia : i ≤ a.length := by rcases hm with ⟨h, _⟩ | ⟨h, _⟩ <;> omega
      have ih := df_chain ha hb ms (i + 1) (i + 1) (k + 1) ho (Nat.le_refl _)
      have h10 := text_len10 ha
      rw [df, if_neg (by omega), Int.toNat_natCast]
      by_cases hg : fa < i ∨ fb < k
      · rw [if_pos hg]
        have hl := cutF_len (a := a) h2 hia
        have hl2 := cutF_len (a := b) hf hk
        refine ⟨⟨Int.le_refl _, ?_, ?_⟩, by rw [List.length_cons]; omega⟩
        · rw [hunkB_iff]
          refine ⟨⟨by simp, by simp; omega⟩, textB_cut ha _ _, textB_cut hb _ _, ?_⟩
          simp only [hl, hl2]; omega
        · simp only [Int.toNat_natCast, hl]
          have e : fa + (i - fa) + 1 = i + 1 := by omega
          rw [e]
          exact ih.1
      · rw [if_neg hg]
        obtain rfl : fa = i := by omega
        refine ⟨?_, by omega⟩
        cases hd : df a b ms (fa + 1) (fa + 1) (k + 1) with
        | nil => trivial
        | cons x r =>
          have := ih.1
          rw [hd] at this
          exact ⟨by have := this.1; omega, this.2⟩
/-- the law -/
theorem diff_do {a b : List ByteArray} (ha : textB a = true) (hb : textB b = true) : pDo a (diffT a b) = (b, true) := by
  have h := df_chain ha hb (pairsT a b) 0 0 0 (pairs_ok a b) (Nat.le_refl _)
  have ha10 := text_len10 ha
  have hb10 := text_len10 hb
  have hp : patchB (diffT a b) = true := chain_patch h.1 (by unfold diffT; omega)
  rw [pDo_ok ha hp]
  exact pDoF_some (do_df a b (pairsT a b) 0 0 0 0 [] (pairs_ok a b) (Nat.le_refl _) (Nat.le_refl _) (by simp [cutF])) hb
theorem pOver_do {t : List ByteArray} {a b : List Hunk} {d : List Hunk} (h : pOver t a b = (d, true)) : ∃ x y, pDo t a = (x, true) ∧ pDo x b = (y, true) ∧ pDo t d = (y, true) := by
  unfold pOver at h
  by_cases hc : (pDo t a).2 = true ∧ (pDo (pDo t a).1 b).2 = true
  · rw [if_pos hc] at h
    simp only [Prod.mk.injEq, and_true] at h
    refine ⟨(pDo t a).1, (pDo (pDo t a).1 b).1, ?_, ?_, ?_⟩
    · rw [← hc.1]
    · rw [← hc.2]
    · rw [← h]; exact diff_do (pDo_text hc.1).1 (pDo_text hc.2).2.2
  · rw [if_neg hc] at h; simp at h
end Go.Vc
