/-
  Plain functions: names, and texts in order. No program is in sight here.
-/
import Derived.Test.YtlokkbllplhlbaaDoorPlain
import Derived.Test.YtlokkbllplhlbaaDoorCore
import Derived.Laws.Cover1
set_option linter.unusedVariables false
namespace Go.Vc

def wordB (c : UInt8) : Bool := (decide (97 ≤ c.toNat) && decide (c.toNat ≤ 122)) || (decide (48 ≤ c.toNat) && decide (c.toNat ≤ 57))
def nameB (s : ByteArray) : Bool := withinB (s.size : Int) 1 6 && s.data.toList.all wordB
theorem nameB_bad1 {s : ByteArray} (h : withinB (s.size : Int) 1 6 = false) : nameB s = false := by rw [nameB, h]; rfl
theorem nameB_of {s : ByteArray} (h : withinB (s.size : Int) 1 6 = true) : nameB s = s.data.toList.all wordB := by rw [nameB, h]; rfl
theorem nameB_bad2 {s : ByteArray} (h : s.data.toList.all wordB = false) : nameB s = false := by rw [nameB, h, Bool.and_false]
theorem within_both (n lo hi : Int) : withinB n lo hi = true ↔ lo ≤ n ∧ n ≤ hi := by simp [withinB]
theorem nameB_size {s : ByteArray} (h : nameB s = true) : 1 ≤ s.size ∧ s.size ≤ 6 := by
  unfold nameB at h
  have := (within_both _ _ _).1 (Bool.and_eq_true_iff.1 h).1
  omega

/-- '<' on texts -/
def lessL : List UInt8 → List UInt8 → Bool := Op.bytesLess
theorem lessL_irrefl : ∀ a, lessL a a = false
  | [] => rfl
  | x :: a => by
    show (decide (x < x) || (x == x && lessL a a)) = false
    rw [lessL_irrefl a]
    simp
theorem u8_lt (a b : UInt8) : (a < b) ↔ a.toNat < b.toNat := UInt8.lt_iff_toNat_lt
theorem u8_ext {a b : UInt8} (h : a.toNat = b.toNat) : a = b := UInt8.toNat_inj.1 h
theorem lessL_cons (x y : UInt8) (a b : List UInt8) : lessL (x :: a) (y :: b) = (decide (x.toNat < y.toNat) || (decide (x = y) && lessL a b)) := by
  show (decide (x < y) || (x == y && lessL a b)) = _
  have h1 : decide (x < y) = decide (x.toNat < y.toNat) := by rw [decide_eq_decide]; exact u8_lt x y
  have h2 : (x == y) = decide (x = y) := rfl
  rw [h1, h2]
/-- of two texts one is less, or they are one -/
theorem lessL_tri : ∀ a b, lessL a b = false → lessL b a = true ∨ a = b
  | [], [], _ => .inr rfl
  | [], _ :: _, h => by simp [lessL, Op.bytesLess] at h
  | x :: a, [], _ => .inl rfl
  | x :: a, y :: b, h => by
    rw [lessL_cons] at h ⊢
    simp only [Bool.or_eq_false_iff, decide_eq_false_iff_not, Bool.and_eq_false_iff] at h
    by_cases e : x = y
    · subst e
      rcases lessL_tri a b (by simpa using h.2) with h' | h'
      · exact .inl (by rw [h']; simp)
      · exact .inr (by rw [h'])
    · have : ¬ x.toNat = y.toNat := fun h => e (u8_ext h)
      exact .inl (by simp; omega)
theorem lessL_asymm : ∀ a b, lessL a b = true → lessL b a = false
  | [], [], h => by simp [lessL, Op.bytesLess] at h
  | [], _ :: _, _ => rfl
  | x :: a, [], h => by simp [lessL, Op.bytesLess] at h
  | x :: a, y :: b, h => by
    rw [lessL_cons] at h ⊢
    simp only [Bool.or_eq_true, decide_eq_true_eq, Bool.and_eq_true] at h
    rcases h with h | ⟨rfl, h⟩
    · have hne : y ≠ x := fun e => by subst e; omega
      simp [hne]; omega
    · rw [lessL_asymm a b h]; simp
theorem lessL_trans : ∀ a b c, lessL a b = true → lessL b c = true → lessL a c = true
  | [], b, [], h1, h2 => by cases b <;> simp [lessL, Op.bytesLess] at h1 h2
  | [], _, _ :: _, _, _ => rfl
  | x :: a, [], c, h1, _ => by simp [lessL, Op.bytesLess] at h1
  | x :: a, y :: b, [], _, h2 => by simp [lessL, Op.bytesLess] at h2
  | x :: a, y :: b, z :: c, h1, h2 => by
    rw [lessL_cons] at h1 h2 ⊢
    simp only [Bool.or_eq_true, decide_eq_true_eq, Bool.and_eq_true] at h1 h2 ⊢
    rcases h1 with h1 | ⟨rfl, h1⟩
    · rcases h2 with h2 | ⟨rfl, h2⟩
      · exact .inl (by omega)
      · exact .inl h1
    · rcases h2 with h2 | ⟨rfl, h2⟩
      · exact .inl h2
      · exact .inr ⟨rfl, lessL_trans a b c h1 h2⟩
def lessB (a b : ByteArray) : Bool := lessL a.toList b.toList
theorem lessB_irrefl (a : ByteArray) : lessB a a = false := lessL_irrefl _
theorem lessB_tri {a b : ByteArray} (h : lessB a b = false) : lessB b a = true ∨ a = b := (lessL_tri _ _ h).imp id toList_inj
theorem lessB_asymm {a b : ByteArray} (h : lessB a b = true) : lessB b a = false := lessL_asymm _ _ h
theorem lessB_trans {a b c : ByteArray} (h : lessB a b = true) (k : lessB b c = true) : lessB a c = true := lessL_trans _ _ _ h k
/-- 'b <= a', as both programs ask it -/
theorem lessB_not (a b : ByteArray) : (!lessB a b) = (lessB b a || decide (b = a)) := by
  cases h : lessB a b with
  | true =>
    rw [lessB_asymm h]
    have : ¬ b = a := fun e => by rw [e, lessB_irrefl] at h; cases h
    simp [this]
  | false =>
    rcases lessB_tri h with h' | h'
    · rw [h']; rfl
    · rw [h']; simp
/-- texts in ascending order: place i and the one ahead of it -/
def stepUp (xs : List ByteArray) (i : Nat) : Bool := decide (i = 0) || lessB (xs.getD (i - 1) ⟨#[]⟩) (xs.getD i ⟨#[]⟩)
/-- names in ascending order -/
def namesB (xs : List ByteArray) : Bool := decide (∀ i, i < xs.length → nameB (xs.getD i ⟨#[]⟩) = true ∧ stepUp xs i = true)
theorem namesB_t {xs : List ByteArray} (h : ∀ i, i < xs.length → nameB (xs.getD i ⟨#[]⟩) = true ∧ stepUp xs i = true) : namesB xs = true := decide_eq_true h
theorem namesB_f {xs : List ByteArray} {i : Nat} (hi : i < xs.length) (h : ¬ (nameB (xs.getD i ⟨#[]⟩) = true ∧ stepUp xs i = true)) : namesB xs = false := decide_eq_false fun hh => h (hh i hi)
end Go.Vc
