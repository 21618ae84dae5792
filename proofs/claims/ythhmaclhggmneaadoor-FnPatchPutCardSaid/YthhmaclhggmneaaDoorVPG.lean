/-
  Plain functions: a patch as lines, and read back. No program is in sight here. / Plain functions: rounds of reading a patch. No program is in sight here.
-/
import Derived.Test.YthhmaclhggmneaaDoorVPM
import Derived.Test.YthhmaclhggmneaaDoorVH
import Derived.Lib.AtoiAll
import Derived.Lib.ItoaNum
set_option linter.unusedVariables false
namespace Go.Vc

/-- one line, behind a mark -/
def ln (c : UInt8) (s : ByteArray) : List UInt8 := c :: (s.data.toList ++ [10])
def headL (n : Int) : List UInt8 := 64 :: (Lib.itoa n ++ [10])
def hunkL (h : Hunk) : List UInt8 := headL h.at_ ++ (h.less.flatMap (ln 45) ++ h.more.flatMap (ln 43))
/-- a patch as lines -/
def putL (d : List Hunk) : List UInt8 := d.flatMap hunkL
def putB (d : List Hunk) : ByteArray := bytesB (putL d)
def patchPut (d : List Hunk) : ByteArray := if patchB d = true then putB d else bytesB []

theorem itoa_digit {n : Int} (h0 : 0 ≤ n) (h1 : n < 10) : Lib.itoa n = [UInt8.ofNat (48 + n.toNat)] := by
  unfold Lib.itoa
  rw [if_neg (by omega), Lib.decDigits, dif_pos (by omega)]
theorem itoa_ten : Lib.itoa 10 = [49, 48] := by
  unfold Lib.itoa
  rw [if_neg (by omega), Lib.decDigits, dif_neg (by decide), Lib.decDigits, dif_pos (by decide)]
  rfl
theorem few_cases {n : Int} (h0 : 0 ≤ n) (h1 : n ≤ 10) : n = 0 ∨ n = 1 ∨ n = 2 ∨ n = 3 ∨ n = 4 ∨ n = 5 ∨ n = 6 ∨ n = 7 ∨ n = 8 ∨ n = 9 ∨ n = 10 := by omega
theorem itoa_cases {n : Int} (h0 : 0 ≤ n) (h1 : n ≤ 10) : (n = 0 ∧ Lib.itoa n = [48]) ∨ (n = 1 ∧ Lib.itoa n = [49]) ∨ (n = 2 ∧ Lib.itoa n = [50]) ∨ (n = 3 ∧ Lib.itoa n = [51]) ∨ (n = 4 ∧ Lib.itoa n = [52]) ∨ (n = 5 ∧ Lib.itoa n = [53]) ∨ (n = 6 ∧ Lib.itoa n = [54]) ∨ (n = 7 ∧ Lib.itoa n = [55]) ∨ (n = 8 ∧ Lib.itoa n = [56]) ∨ (n = 9 ∧ Lib.itoa n = [57]) ∨ (n = 10 ∧ Lib.itoa n = [49, 48]) := by
  rcases few_cases h0 h1 with rfl | rfl | rfl | rfl | rfl | rfl | rfl | rfl | rfl | rfl | rfl
  · exact .inl ⟨rfl, itoa_digit (by decide) (by decide)⟩
  · exact .inr (.inl ⟨rfl, itoa_digit (by decide) (by decide)⟩)
  · exact .inr (.inr (.inl ⟨rfl, itoa_digit (by decide) (by decide)⟩))
  · exact .inr (.inr (.inr (.inl ⟨rfl, itoa_digit (by decide) (by decide)⟩)))
  · exact .inr (.inr (.inr (.inr (.inl ⟨rfl, itoa_digit (by decide) (by decide)⟩))))
  · exact .inr (.inr (.inr (.inr (.inr (.inl ⟨rfl, itoa_digit (by decide) (by decide)⟩)))))
  · exact .inr (.inr (.inr (.inr (.inr (.inr (.inl ⟨rfl, itoa_digit (by decide) (by decide)⟩))))))
  · exact .inr (.inr (.inr (.inr (.inr (.inr (.inr (.inl ⟨rfl, itoa_digit (by decide) (by decide)⟩)))))))
  · exact .inr (.inr (.inr (.inr (.inr (.inr (.inr (.inr (.inl ⟨rfl, itoa_digit (by decide) (by decide)⟩))))))))
  · exact .inr (.inr (.inr (.inr (.inr (.inr (.inr (.inr (.inr (.inl ⟨rfl, itoa_digit (by decide) (by decide)⟩)))))))))
  · exact .inr (.inr (.inr (.inr (.inr (.inr (.inr (.inr (.inr (.inr ⟨rfl, itoa_ten⟩)))))))))
theorem itoa_len {n : Int} (h0 : 0 ≤ n) (h1 : n ≤ 10) : (Lib.itoa n).length ≤ 2 := by
  rcases itoa_cases h0 h1 with h | h | h | h | h | h | h | h | h | h | h <;> rw [h.2] <;> decide
theorem itoa_clean {n : Int} (h0 : 0 ≤ n) (h1 : n ≤ 10) : (10 : UInt8) ∉ Lib.itoa n := by
  rcases itoa_cases h0 h1 with h | h | h | h | h | h | h | h | h | h | h <;> rw [h.2] <;> decide

/-! lengths -/
theorem flat_len {c : UInt8} : ∀ (t : List ByteArray), t.all lineB = true → (t.flatMap (ln c)).length ≤ 14 * t.length
  | [], _ => by simp
  | s :: t, h => by
    rw [List.all_cons, Bool.and_eq_true] at h
    have h1 := flat_len (c := c) t h.2
    have h2 : s.size ≤ 12 := by
      have := h.1
      unfold lineB at this
      rw [Bool.and_eq_true, decide_eq_true_eq] at this
      exact this.1
    have h3 : (ln c s).length = s.size + 2 := by simp [ln]
    rw [List.flatMap_cons, List.length_append, h3, List.length_cons]
    omega
theorem text_all {t : List ByteArray} (h : textB t = true) : t.all lineB = true := by
  unfold textB at h
  rw [Bool.and_eq_true] at h
  exact h.2
theorem hunkL_len {h : Hunk} (hh : hunkB h = true) : (hunkL h).length ≤ 284 := by
  obtain ⟨⟨h0, h1⟩, h2, h3, _⟩ := (hunkB_iff h).1 hh
  have k1 := flat_len (c := 45) h.less (text_all h2)
  have k2 := flat_len (c := 43) h.more (text_all h3)
  have k3 := itoa_len h0 h1
  have k4 := text_len10 h2
  have k5 := text_len10 h3
  simp only [hunkL, headL, List.length_append, List.length_cons, List.length_nil]
  omega
theorem patch_all {d : List Hunk} (h : patchB d = true) : ∀ x ∈ d, hunkB x = true := fun x hx => by
  obtain ⟨i, hi, rfl⟩ := List.getElem_of_mem hx
  have := (((patchB_iff d).1 h).2 i hi).1
  rwa [getD_hunk hi] at this
theorem putL_len0 : ∀ (d : List Hunk), (∀ x ∈ d, hunkB x = true) → (putL d).length ≤ 284 * d.length
  | [], _ => by simp [putL]
  | h :: d, hh => by
    have h1 := putL_len0 d (fun x hx => hh x (by simp [hx]))
    have h2 := hunkL_len (hh h (by simp))
    unfold putL at h1 ⊢
    rw [List.flatMap_cons, List.length_append, List.length_cons]
    omega
theorem putL_len {d : List Hunk} (h : patchB d = true) : (putL d).length ≤ 2272 := by
  have h1 := putL_len0 d (patch_all h)
  have h2 := patch_len h
  omega
theorem patchPut_size (d : List Hunk) : (patchPut d).size ≤ 2272 := by
  unfold patchPut
  split
  · rename_i h
    have := putL_len h
    rw [putB, bytesB_size]
    exact this
  · rw [bytesB_size]; decide

/-! rounds -/
theorem flat_next {α : Type} {f : α → List UInt8} {xs : List α} {X acc : List UInt8} {k : Nat} (H : X = acc ++ (xs.drop k).flatMap f) (h : k < xs.length) : X = (acc ++ f xs[k]) ++ (xs.drop (k + 1)).flatMap f := by
  rw [H, drop_cons xs k h, List.flatMap_cons, List.append_assoc]
theorem flat_end {α : Type} {f : α → List UInt8} {xs : List α} {X acc : List UInt8} {k : Nat} (H : X = acc ++ (xs.drop k).flatMap f) (h : ¬ k < xs.length) : X = acc := by
  rw [H, drop_nil xs k h, List.flatMap_nil, List.append_nil]
theorem flat_le {α : Type} {f : α → List UInt8} {xs : List α} {X acc : List UInt8} {k : Nat} (H : X = acc ++ (xs.drop k).flatMap f) : acc.length ≤ X.length := by
  rw [H]; simp

/-! reading -/
def setLess (d : List Hunk) (k : Nat) (t : ByteArray) : List Hunk := d.set k ⟨(d.getD k noHunk).at_, (d.getD k noHunk).less ++ [t], (d.getD k noHunk).more⟩
def setMore (d : List Hunk) (k : Nat) (t : ByteArray) : List Hunk := d.set k ⟨(d.getD k noHunk).at_, (d.getD k noHunk).less, (d.getD k noHunk).more ++ [t]⟩
/-- one line read: its mark, and what is behind it -/
def readC (num : ByteArray → Option Int) (d : List Hunk) (c : UInt8) (t : ByteArray) : Option (List Hunk) :=
  if c.toNat = 64 then (num t).map fun n => d ++ [⟨n, [], []⟩]
  else if d.length = 0 then none
  else if c.toNat = 45 then some (setLess d (d.length - 1) t)
  else if c.toNat = 43 then some (setMore d (d.length - 1) t)
  else none
def readL (num : ByteArray → Option Int) (d : List Hunk) (l : ByteArray) : Option (List Hunk) :=
  match l.data.toList with
  | [] => none
  | c :: t => readC num d c (bytesB t)
def readF (num : ByteArray → Option Int) : List Hunk → List ByteArray → Option (List Hunk)
  | d, [] => some d
  | d, l :: r => match readL num d l with
    | some d' => readF num d' r
    | none => none
theorem data_cons {s : ByteArray} (h : 0 < s.size) : s.data.toList = s[0] :: (s.extract 1 s.size).data.toList := by
  have e := extract_bytes s 1 s.size
  rw [e, bytesB_list]
  have hl : s.data.toList.length = s.size := by simp
  cases hd : s.data.toList with
  | nil => rw [hd] at hl; simp at hl; omega
  | cons c t =>
    have h1 : s[0] = c := by
      have : s.data.toList[0]? = some c := by rw [hd]; rfl
      have h2 : s.data.toList[0]? = some s[0] := by
        rw [List.getElem?_eq_getElem (by rw [hl]; exact h)]
        rfl
      rw [h2] at this
      exact Option.some.inj this
    rw [hd] at hl
    rw [h1, List.drop_one, List.tail_cons, List.take_of_length_le (by simp at hl; omega)]
theorem readL_at {num : ByteArray → Option Int} {d : List Hunk} {l : ByteArray} (h : 0 < l.size) : readL num d l = readC num d l[0] (l.extract 1 l.size) := by
  unfold readL
  rw [data_cons h]
  show readC num d l[0] (bytesB (l.extract 1 l.size).data.toList) = _
  rw [bytesB_data]
theorem readL_no {num : ByteArray → Option Int} {d : List Hunk} {l : ByteArray} (h : l.size = 0) : readL num d l = none := by
  unfold readL
  have hl : l.data.toList.length = l.size := by simp
  have : l.data.toList = [] := List.eq_nil_of_length_eq_zero (by omega)
  rw [this]
section
variable {num : ByteArray → Option Int} {ls : List ByteArray} {d d' : List Hunk} {k : Nat} {R : Option (List Hunk)}
theorem readF_next (H : R = readF num d (ls.drop k)) (h : k < ls.length) (hr : readL num d ls[k] = some d') : R = readF num d' (ls.drop (k + 1)) := by
  rw [H, drop_cons ls k h, readF, hr]
theorem readF_bad (H : R = readF num d (ls.drop k)) (h : k < ls.length) (hr : readL num d ls[k] = none) : R = none := by
  rw [H, drop_cons ls k h, readF, hr]
theorem readF_end (H : R = readF num d (ls.drop k)) (h : ¬ k < ls.length) : R = some d := by
  rw [H, drop_nil ls k h, readF]
end
theorem readF_append {num : ByteArray → Option Int} : ∀ (ls rs : List ByteArray) (d d' : List Hunk), readF num d ls = some d' → readF num d (ls ++ rs) = readF num d' rs
  | [], rs, d, d', h => by rw [readF] at h; rw [List.nil_append, Option.some.inj h]
  | l :: ls, rs, d, d', h => by
    rw [readF] at h
    rw [List.cons_append, readF]
    cases hr : readL num d l with
    | none => rw [hr] at h; cases h
    | some d2 => rw [hr] at h; exact readF_append ls rs d2 d' h
/-- what is read is looked at again -/
def chk (s : ByteArray) : Option (List Hunk) → Option (List Hunk)
  | some d => if patchB d = true ∧ putB d = s then some d else none
  | none => none
def numI (t : ByteArray) : Option Int :=
  match Lib.atoiAll t.data.toList with
  | .ok v => if bytesB (Lib.itoa v) = t then some v else none
  | _ => none
def numF : List UInt8 → Nat → Int → Option Int
  | [], _, n => some n
  | c :: r, i, n => if c.toNat < 48 ∨ 57 < c.toNat ∨ 6 ≤ i then none else numF r (i + 1) (n * 10 + (c.toNat - 48 : Nat))
def numS (t : ByteArray) : Int :=
  match numF t.data.toList 0 0 with
  | none => -1
  | some n => if t.size = 0 ∨ (1 < t.size ∧ (t.data.toList.headD 0).toNat = 48) then -1 else n
/-- as the program reads -/
def getI (s : ByteArray) : Option (List Hunk) :=
  if (pieces 10 s).getLastD (bytesB []) = bytesB [] then chk s (readF numI [] (pieces 10 s).dropLast) else none
/-- as the reference reads -/
def getS (s : ByteArray) : Option (List Hunk) := chk s (readF (fun t => some (numS t)) [] (piecesM 10 169 s).dropLast)

/-! what is written is read -/
def linesH (h : Hunk) : List (List UInt8) := (64 :: Lib.itoa h.at_) :: (h.less.map (fun s => 45 :: s.data.toList) ++ h.more.map (fun s => 43 :: s.data.toList))
def linesP (d : List Hunk) : List (List UInt8) := d.flatMap linesH
theorem map_ln (c : UInt8) : ∀ (t : List ByteArray), (t.map (fun s => c :: s.data.toList)).flatMap (· ++ [10]) = t.flatMap (ln c)
  | [] => rfl
  | s :: t => by rw [List.map_cons, List.flatMap_cons, List.flatMap_cons, map_ln c t]; rfl
theorem hunkL_lines (h : Hunk) : hunkL h = (linesH h).flatMap (· ++ [10]) := by
  unfold linesH hunkL headL
  rw [List.flatMap_cons, List.flatMap_append, map_ln, map_ln]
  simp
theorem putL_lines : ∀ (d : List Hunk), putL d = (linesP d).flatMap (· ++ [10])
  | [] => rfl
  | h :: d => by
    have := putL_lines d
    unfold putL linesP at this ⊢
    rw [List.flatMap_cons, List.flatMap_cons, List.flatMap_append, this, hunkL_lines]
theorem cutL_lines : ∀ (ls : List (List UInt8)), (∀ l ∈ ls, (10 : UInt8) ∉ l) → cutL 10 (ls.flatMap (· ++ [10])) = ls ++ [[]]
  | [], _ => rfl
  | l :: ls, h => by
    have h1 := cutL_lines ls (fun x hx => h x (by simp [hx]))
    have h2 : (l :: ls).flatMap (· ++ [10]) = l ++ 10 :: ls.flatMap (· ++ [10]) := by simp
    rw [h2, cutL_at (h l (by simp)), h1]; rfl
theorem line_clean {c : UInt8} {s : ByteArray} (hs : lineB s = true) (hc : c ≠ 10) : (10 : UInt8) ∉ c :: s.data.toList := by
  intro hm
  rcases List.mem_cons.1 hm with h | h
  · exact hc h.symm
  · unfold lineB at hs
    rw [Bool.and_eq_true, List.all_eq_true] at hs
    have := hs.2 10 h
    revert this
    decide
theorem hunk_clean {h : Hunk} (hh : hunkB h = true) : ∀ l ∈ linesH h, (10 : UInt8) ∉ l := by
  obtain ⟨⟨h0, h1⟩, h2, h3, _⟩ := (hunkB_iff h).1 hh
  intro l hl
  unfold linesH at hl
  rcases List.mem_cons.1 hl with rfl | hl
  · intro hm
    rcases List.mem_cons.1 hm with h | h
    · revert h; decide
    · exact itoa_clean h0 h1 h
  · rcases List.mem_append.1 hl with hl | hl
    · obtain ⟨s, hs, rfl⟩ := List.mem_map.1 hl
      exact line_clean (List.all_eq_true.1 (text_all h2) s hs) (by decide)
    · obtain ⟨s, hs, rfl⟩ := List.mem_map.1 hl
      exact line_clean (List.all_eq_true.1 (text_all h3) s hs) (by decide)
theorem lines_clean {d : List Hunk} (hd : patchB d = true) : ∀ l ∈ linesP d, (10 : UInt8) ∉ l := by
  intro l hl
  obtain ⟨h, hh, hl⟩ := List.mem_flatMap.1 hl
  exact hunk_clean (patch_all hd h hh) l hl
theorem cut_put {d : List Hunk} (hd : patchB d = true) : cutL 10 (putL d) = linesP d ++ [[]] := by
  rw [putL_lines, cutL_lines _ (lines_clean hd)]
theorem linesH_len {h : Hunk} (hh : hunkB h = true) : (linesH h).length ≤ 21 := by
  obtain ⟨_, h2, h3, _⟩ := (hunkB_iff h).1 hh
  have k4 := text_len10 h2
  have k5 := text_len10 h3
  simp [linesH]
  omega
theorem linesP_len0 : ∀ (d : List Hunk), (∀ x ∈ d, hunkB x = true) → (linesP d).length ≤ 21 * d.length
  | [], _ => by simp [linesP]
  | h :: d, hh => by
    have h1 := linesP_len0 d (fun x hx => hh x (by simp [hx]))
    have h2 := linesH_len (hh h (by simp))
    unfold linesP at h1 ⊢
    rw [List.flatMap_cons, List.length_append, List.length_cons]
    omega
theorem linesP_len {d : List Hunk} (h : patchB d = true) : (linesP d).length ≤ 168 := by
  have h1 := linesP_len0 d (patch_all h)
  have h2 := patch_len h
  omega
theorem pieces_put {d : List Hunk} (hd : patchB d = true) : pieces 10 (putB d) = (linesP d).map bytesB ++ [bytesB []] := by
  rw [pieces, putB, bytesB_list, cut_put hd, List.map_append]; rfl
theorem piecesM_put {d : List Hunk} (hd : patchB d = true) : piecesM 10 169 (putB d) = (linesP d).map bytesB ++ [bytesB []] := by
  have h1 := cutL_len 10 (putL d)
  rw [cut_put hd] at h1
  have h2 := linesP_len hd
  simp at h1
  rw [piecesM, putB, bytesB_list, cutM_all 169 (putL d) (by omega), cut_put hd, List.map_append]; rfl
theorem getD_last (d : List Hunk) (h : Hunk) : (d ++ [h]).getD ((d ++ [h]).length - 1) noHunk = h := by simp [List.getD]
theorem set_last (d : List Hunk) (h x : Hunk) : (d ++ [h]).set ((d ++ [h]).length - 1) x = d ++ [x] := by simp
theorem setLess_last (d : List Hunk) (h : Hunk) (t : ByteArray) : setLess (d ++ [h]) ((d ++ [h]).length - 1) t = d ++ [⟨h.at_, h.less ++ [t], h.more⟩] := by
  unfold setLess; rw [getD_last, set_last]
theorem setMore_last (d : List Hunk) (h : Hunk) (t : ByteArray) : setMore (d ++ [h]) ((d ++ [h]).length - 1) t = d ++ [⟨h.at_, h.less, h.more ++ [t]⟩] := by
  unfold setMore; rw [getD_last, set_last]
theorem readL_less {num : ByteArray → Option Int} (d : List Hunk) (h : Hunk) (s : ByteArray) : readL num (d ++ [h]) (bytesB (45 :: s.data.toList)) = some (d ++ [⟨h.at_, h.less ++ [s], h.more⟩]) := by
  unfold readL
  rw [bytesB_list]
  show readC num (d ++ [h]) 45 (bytesB s.data.toList) = _
  rw [bytesB_data]
  unfold readC
  rw [if_neg (by decide), if_neg (by simp), if_pos (by decide), setLess_last]
theorem readL_more {num : ByteArray → Option Int} (d : List Hunk) (h : Hunk) (s : ByteArray) : readL num (d ++ [h]) (bytesB (43 :: s.data.toList)) = some (d ++ [⟨h.at_, h.less, h.more ++ [s]⟩]) := by
  unfold readL
  rw [bytesB_list]
  show readC num (d ++ [h]) 43 (bytesB s.data.toList) = _
  rw [bytesB_data]
  unfold readC
  rw [if_neg (by decide), if_neg (by simp), if_neg (by decide), if_pos (by decide), setMore_last]
theorem readF_less {num : ByteArray → Option Int} : ∀ (t : List ByteArray) (d : List Hunk) (h : Hunk), readF num (d ++ [h]) ((t.map (fun s => 45 :: s.data.toList)).map bytesB) = some (d ++ [⟨h.at_, h.less ++ t, h.more⟩])
  | [], d, h => by simp [readF]
  | s :: t, d, h => by
    rw [List.map_cons, List.map_cons, readF, readL_less]
    show readF num _ _ = _
    rw [readF_less t d]
    simp
theorem readF_more {num : ByteArray → Option Int} : ∀ (t : List ByteArray) (d : List Hunk) (h : Hunk), readF num (d ++ [h]) ((t.map (fun s => 43 :: s.data.toList)).map bytesB) = some (d ++ [⟨h.at_, h.less, h.more ++ t⟩])
  | [], d, h => by simp [readF]
  | s :: t, d, h => by
    rw [List.map_cons, List.map_cons, readF, readL_more]
    show readF num _ _ = _
    rw [readF_more t d]
    simp
theorem readF_hunk {num : ByteArray → Option Int} (d : List Hunk) (h : Hunk) (hn : num (bytesB (Lib.itoa h.at_)) = some h.at_) : readF num d ((linesH h).map bytesB) = some (d ++ [h]) := by
  have h1 : readL num d (bytesB (64 :: Lib.itoa h.at_)) = some (d ++ [⟨h.at_, [], []⟩]) := by
    unfold readL
    rw [bytesB_list]
    show readC num d 64 (bytesB (Lib.itoa h.at_)) = _
    unfold readC
    rw [if_pos (by decide), hn]; rfl
  unfold linesH
  rw [List.map_cons, List.map_append, readF, h1]
  show readF num _ _ = _
  rw [readF_append _ _ _ _ (readF_less h.less d ⟨h.at_, [], []⟩), readF_more h.more d]
  simp
theorem readF_put {num : ByteArray → Option Int} : ∀ (ds d : List Hunk), (∀ x ∈ ds, num (bytesB (Lib.itoa x.at_)) = some x.at_) → readF num d ((linesP ds).map bytesB) = some (d ++ ds)
  | [], d, _ => by simp [linesP, readF]
  | h :: ds, d, hn => by
    have h1 : linesP (h :: ds) = linesH h ++ linesP ds := by simp [linesP]
    rw [h1, List.map_append, readF_append _ _ _ _ (readF_hunk d h (hn h (by simp))), readF_put ds (d ++ [h]) (fun x hx => hn x (by simp [hx]))]
    simp
theorem numI_few {n : Int} (h0 : 0 ≤ n) (h1 : n ≤ 10) : numI (bytesB (Lib.itoa n)) = some n := by
  unfold numI
  rw [bytesB_list]
  have h2 : Lib.atoiAll (Lib.itoa n) = .ok n := by
    rcases itoa_cases h0 h1 with h | h | h | h | h | h | h | h | h | h | h <;> rw [h.2, h.1] <;> rfl
  rw [h2]
  show (if bytesB (Lib.itoa n) = bytesB (Lib.itoa n) then some n else none) = _
  rw [if_pos rfl]
theorem numS_few {n : Int} (h0 : 0 ≤ n) (h1 : n ≤ 10) : numS (bytesB (Lib.itoa n)) = n := by
  unfold numS
  rw [bytesB_list, bytesB_size]
  rcases itoa_cases h0 h1 with h | h | h | h | h | h | h | h | h | h | h <;> rw [h.2, h.1] <;> decide
theorem chk_some {s : ByteArray} {d : List Hunk} (hd : patchB d = true) (hs : putB d = s) : chk s (some d) = some d := by
  show (if patchB d = true ∧ putB d = s then some d else none) = _
  rw [if_pos ⟨hd, hs⟩]
theorem chk_sound {s : ByteArray} {o : Option (List Hunk)} {d : List Hunk} (h : chk s o = some d) : patchB d = true ∧ putB d = s := by
  unfold chk at h
  split at h
  · split at h
    · rename_i hc
      cases h
      exact hc
    · cases h
  · cases h
/-- what is written is read back -/
theorem getI_put {d : List Hunk} (hd : patchB d = true) : getI (putB d) = some d := by
  unfold getI
  rw [pieces_put hd, List.dropLast_concat, List.getLastD_concat, if_pos rfl, readF_put _ _ (fun x hx => numI_few (((hunkB_iff x).1 (patch_all hd x hx)).1.1) (((hunkB_iff x).1 (patch_all hd x hx)).1.2)), List.nil_append, chk_some hd rfl]
theorem getS_put {d : List Hunk} (hd : patchB d = true) : getS (putB d) = some d := by
  unfold getS
  rw [piecesM_put hd, List.dropLast_concat, readF_put _ _ (fun x hx => by rw [numS_few (((hunkB_iff x).1 (patch_all hd x hx)).1.1) (((hunkB_iff x).1 (patch_all hd x hx)).1.2)]), List.nil_append, chk_some hd rfl]
/-- what is read is written just so -/
theorem getI_sound {s : ByteArray} {d : List Hunk} (h : getI s = some d) : patchB d = true ∧ putB d = s := by
  unfold getI at h
  split at h
  · exact chk_sound h
  · cases h
theorem getS_sound {s : ByteArray} {d : List Hunk} (h : getS s = some d) : patchB d = true ∧ putB d = s := chk_sound h
theorem get_same (s : ByteArray) : getI s = getS s := by
  cases hi : getI s with
  | some d =>
    obtain ⟨h1, h2⟩ := getI_sound hi
    rw [← h2, getS_put h1]
  | none =>
    cases hs : getS s with
    | none => rfl
    | some d =>
      obtain ⟨h1, h2⟩ := getS_sound hs
      rw [← h2, getI_put h1] at hi
      cases hi
end Go.Vc
namespace Go.Vc
theorem rc_head {num : ByteArray → Option Int} {d : List Hunk} {c : UInt8} {t : ByteArray} {n : Int} (h : c.toNat = 64) (hn : num t = some n) : readC num d c t = some (d ++ [⟨n, [], []⟩]) := by
  unfold readC; rw [if_pos h, hn]; rfl
theorem rc_headN {num : ByteArray → Option Int} {d : List Hunk} {c : UInt8} {t : ByteArray} (h : c.toNat = 64) (hn : num t = none) : readC num d c t = none := by
  unfold readC; rw [if_pos h, hn]; rfl
theorem rc_none {num : ByteArray → Option Int} {d : List Hunk} {c : UInt8} {t : ByteArray} (h : ¬ c.toNat = 64) (hd : d.length = 0) : readC num d c t = none := by
  unfold readC; rw [if_neg h, if_pos hd]
theorem rc_less {num : ByteArray → Option Int} {d : List Hunk} {c : UInt8} {t : ByteArray} (h : c.toNat = 45) (hd : 0 < d.length) : readC num d c t = some (d.set (d.length - 1) ⟨d[d.length - 1].at_, d[d.length - 1].less ++ [t], d[d.length - 1].more⟩) := by
  unfold readC setLess
  rw [if_neg (by omega), if_neg (by omega), if_pos h, getD_hunk (by omega)]
theorem rc_more {num : ByteArray → Option Int} {d : List Hunk} {c : UInt8} {t : ByteArray} (h : c.toNat = 43) (hd : 0 < d.length) : readC num d c t = some (d.set (d.length - 1) ⟨d[d.length - 1].at_, d[d.length - 1].less, d[d.length - 1].more ++ [t]⟩) := by
  unfold readC setMore
  rw [if_neg (by omega), if_neg (by omega), if_neg (by omega), if_pos h, getD_hunk (by omega)]
theorem rc_bad {num : ByteArray → Option Int} {d : List Hunk} {c : UInt8} {t : ByteArray} (h : ¬ c.toNat = 64) (h2 : ¬ c.toNat = 45) (h3 : ¬ c.toNat = 43) : readC num d c t = none := by
  unfold readC
  rw [if_neg h, if_neg h2, if_neg h3]
  split <;> rfl
/-- how many lines a piece holds so far -/
def smallH (k : Nat) (d : List Hunk) : Prop := ∀ x ∈ d, x.less.length ≤ k ∧ x.more.length ≤ k
theorem smallH_nil (k : Nat) : smallH k [] := fun x hx => by cases hx
theorem smallH_mono {k : Nat} {d : List Hunk} (h : smallH k d) : smallH (k + 1) d := fun x hx => by have := h x hx; omega
theorem smallH_add {k : Nat} {d : List Hunk} {n : Int} (h : smallH k d) : smallH (k + 1) (d ++ [⟨n, [], []⟩]) := fun x hx => by
  rcases List.mem_append.1 hx with hx | hx
  · have := h x hx; omega
  · rw [List.mem_singleton] at hx
    subst hx
    exact ⟨Nat.zero_le _, Nat.zero_le _⟩
theorem smallH_set {k i : Nat} {d : List Hunk} {y : Hunk} (h : smallH k d) (hy : y.less.length ≤ k + 1 ∧ y.more.length ≤ k + 1) : smallH (k + 1) (d.set i y) := fun x hx => by
  rcases List.mem_or_eq_of_mem_set hx with hx | rfl
  · have := h x hx; omega
  · exact hy
theorem getI_no {s : ByteArray} (h : ¬ (pieces 10 s).getLastD (bytesB []) = bytesB []) : getI s = none := by unfold getI; rw [if_neg h]
theorem getI_yes {s : ByteArray} (h : (pieces 10 s).getLastD (bytesB []) = bytesB []) : getI s = chk s (readF numI [] (pieces 10 s).dropLast) := by unfold getI; rw [if_pos h]
theorem chk_bad {s : ByteArray} {d : List Hunk} (h : patchB d = false) : chk s (some d) = none := by
  show (if patchB d = true ∧ putB d = s then some d else none) = _
  rw [if_neg (by rw [h]; simp)]
theorem chk_other {s : ByteArray} {d : List Hunk} (h : ¬ putB d = s) : chk s (some d) = none := by
  show (if patchB d = true ∧ putB d = s then some d else none) = _
  rw [if_neg (fun hc => h hc.2)]
theorem pieces_few (s : ByteArray) : (pieces 10 s).length ≤ s.size + 1 := by
  rw [pieces_len, cutL_len]
  have := List.count_le_length (a := (10 : UInt8)) (l := s.data.toList)
  have h2 : s.data.toList.length = s.size := by simp
  omega
end Go.Vc
