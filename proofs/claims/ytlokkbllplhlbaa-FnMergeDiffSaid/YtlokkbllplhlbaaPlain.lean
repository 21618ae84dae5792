/-
  Plain functions on lists and integers that the Go functions compute. No program is in sight here.
-/
namespace Go.Vc

theorem drop_cons {α : Type} (xs : List α) (k : Nat) (h : k < xs.length) : xs.drop k = xs[k] :: xs.drop (k + 1) := List.drop_eq_getElem_cons h
theorem drop_nil {α : Type} (xs : List α) (k : Nat) (h : ¬ k < xs.length) : xs.drop k = [] := List.drop_eq_nil_of_le (by omega)

theorem all_next {α : Type} {xs : List α} {p : α → Bool} {k : Nat} (H : xs.all p = (xs.drop k).all p) (h : k < xs.length) (hp : p xs[k] = true) : xs.all p = (xs.drop (k + 1)).all p := by
  rw [H, drop_cons xs k h, List.all_cons, hp, Bool.true_and]
theorem all_bad {α : Type} {xs : List α} {p : α → Bool} {k : Nat} (H : xs.all p = (xs.drop k).all p) (h : k < xs.length) (hp : p xs[k] = false) : xs.all p = false := by
  rw [H, drop_cons xs k h, List.all_cons, hp, Bool.false_and]
theorem all_end {α : Type} {xs : List α} {p : α → Bool} {k : Nat} (H : xs.all p = (xs.drop k).all p) (h : ¬ k < xs.length) : xs.all p = true := by
  rw [H, drop_nil xs k h]; rfl

theorem eq_next {α : Type} [DecidableEq α] {xs ys : List α} {k : Nat} (H : decide (xs = ys) = decide (xs.drop k = ys.drop k)) (h : k < xs.length) (h' : k < ys.length) (e : xs[k] = ys[k]) :
    decide (xs = ys) = decide (xs.drop (k + 1) = ys.drop (k + 1)) := by
  rw [H, drop_cons xs k h, drop_cons ys k h', e]
  simp only [List.cons.injEq, true_and]
theorem eq_bad {α : Type} [DecidableEq α] {xs ys : List α} {k : Nat} (H : decide (xs = ys) = decide (xs.drop k = ys.drop k)) (h : k < xs.length) (h' : k < ys.length) (e : ¬ xs[k] = ys[k]) :
    decide (xs = ys) = false := by
  rw [H, drop_cons xs k h, drop_cons ys k h']
  simp only [List.cons.injEq, e, false_and, decide_false]
theorem eq_end {α : Type} [DecidableEq α] {xs ys : List α} {k : Nat} (H : decide (xs = ys) = decide (xs.drop k = ys.drop k)) (h : ¬ k < xs.length) (h' : ¬ k < ys.length) :
    decide (xs = ys) = true := by
  rw [H, drop_nil xs k h, drop_nil ys k h']; rfl

theorem byte_at (s : ByteArray) (k : Nat) (h : k < s.size) : s.data.toList[k]'(by simpa using h) = s[k] := rfl

/-- a row filled from the front -/
def fill {α : Type} (xs : List α) (z : α) (k : Nat) : List α := xs.take k ++ List.replicate (xs.length - k) z
theorem fill_zero {α : Type} (xs : List α) (z : α) : fill xs z 0 = List.replicate xs.length z := by simp [fill]
theorem fill_len {α : Type} (xs : List α) (z : α) (k : Nat) (h : k ≤ xs.length) : (fill xs z k).length = xs.length := by simp [fill]; omega
theorem fill_all {α : Type} (xs : List α) (z : α) (k : Nat) (h : ¬ k < xs.length) : fill xs z k = xs := by
  have e : xs.length - k = 0 := by omega
  rw [fill, e, List.replicate_zero, List.append_nil, List.take_of_length_le (by omega)]
theorem fill_next {α : Type} (xs : List α) (z : α) (k : Nat) (h : k < xs.length) : (fill xs z k).set k xs[k] = fill xs z (k + 1) := by
  have e : xs.length - k = (xs.length - (k + 1)) + 1 := by omega
  have hl : (xs.take k).length = k := by simp; omega
  rw [fill, fill, e, List.replicate_succ, List.set_append_right _ _ (by omega), hl, Nat.sub_self, List.set_cons_zero, List.take_succ_eq_append_getElem h, List.append_assoc]
  rfl

def withinB (n lo hi : Int) : Bool := decide (lo ≤ n) && decide (n ≤ hi)

def byteOk (c : UInt8) : Bool := decide (32 ≤ c.toNat) && decide (c.toNat ≤ 126)
def lineB (s : ByteArray) : Bool := decide (s.size ≤ 12) && s.data.toList.all byteOk
def textB (t : List ByteArray) : Bool := decide (t.length ≤ 10) && t.all lineB

/-- what is left of a budget -/
def sub (l : Int) (n : Nat) : Int := if l < n then -1 else l - n
theorem sub_zero (l : Int) (_ : 0 ≤ l) : sub l 0 = l := by unfold sub; split <;> omega
theorem sub_bad {l : Int} {a : Nat} (b : Nat) (h : l - a < 0) : sub l (a + b) = -1 := by unfold sub; rw [if_pos (by omega)]
theorem sub_bad' {l : Int} {a : Nat} (h : l - a < 0) : sub l a = -1 := by unfold sub; rw [if_pos (by omega)]
theorem sub_next {l : Int} {a : Nat} (b : Nat) (_ : 0 ≤ l - a) : sub l (a + b) = sub (l - a) b := by
  unfold sub
  by_cases h2 : l - a < b
  · rw [if_pos h2, if_pos (by omega)]
  · rw [if_neg h2, if_neg (by omega)]; omega
theorem sub_neg {l : Int} {a : Nat} (h : sub l a < 0) (_ : 0 ≤ l) : l - a < 0 := by
  unfold sub at h
  split at h <;> omega
theorem sub_neg1 {l : Int} {a : Nat} (h : sub l a < 0) (hl : 0 ≤ l) : sub l a = -1 := sub_bad' (sub_neg h hl)
theorem sub_pos {l : Int} {a : Nat} (h : 0 ≤ sub l a) : 0 ≤ l - a ∧ sub l a = l - a := by
  unfold sub at h ⊢
  by_cases h1 : l < a
  · rw [if_pos h1] at h; omega
  · rw [if_neg h1]; omega
theorem sub_le {l : Int} (a : Nat) (h : 0 ≤ l) : sub l a ≤ l := by unfold sub; split <;> omega
def bsum {α : Type} (b : α → Nat) (xs : List α) : Nat := (xs.map b).sum
theorem bsum_cons {α : Type} (b : α → Nat) (x : α) (xs : List α) : bsum b (x :: xs) = b x + bsum b xs := by simp [bsum]
theorem bsum_drop {α : Type} (b : α → Nat) (xs : List α) (k : Nat) (h : k < xs.length) : bsum b (xs.drop k) = b xs[k] + bsum b (xs.drop (k + 1)) := by rw [drop_cons xs k h, bsum_cons]
theorem bsum_end {α : Type} (b : α → Nat) (xs : List α) (k : Nat) (h : ¬ k < xs.length) : bsum b (xs.drop k) = 0 := by rw [drop_nil xs k h]; rfl
/-- how much a slice takes of the budget -/
def bulkL {α : Type} (b : α → Nat) (xs : List α) : Nat := xs.length + bsum b xs
abbrev bulkS (xs : List ByteArray) : Nat := bulkL ByteArray.size xs
theorem bsum_at {α : Type} (b : α → Nat) (xs : List α) (i : Nat) (h : i < xs.length) : b xs[i] ≤ bsum b xs := by
  induction xs generalizing i with
  | nil => simp at h
  | cons x r ih =>
    rw [bsum_cons]
    cases i with
    | zero => simp
    | succ i => have := ih i (by simpa using h); simp only [List.getElem_cons_succ]; omega
end Go.Vc
