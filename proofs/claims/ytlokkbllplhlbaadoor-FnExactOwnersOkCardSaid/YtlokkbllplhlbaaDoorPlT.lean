/-
  Plain functions: paths. No program is in sight here.
-/
import Derived.Test.YtlokkbllplhlbaaDoorPlN
import Derived.Lib.SplitLaws
import Derived.Lib.IndexBytes
set_option linter.unusedVariables false
namespace Go.Vc

/-- a text's bytes cut at each stroke -/
def cutL (c : UInt8) : List UInt8 → List (List UInt8)
  | [] => [[]]
  | b :: r => if b = c then [] :: cutL c r else match cutL c r with
    | h :: t => (b :: h) :: t
    | [] => [[b]]
theorem cutL_free {c : UInt8} : ∀ {s : List UInt8}, c ∉ s → cutL c s = [s]
  | [], _ => rfl
  | b :: r, h => by
    have hb : b ≠ c := fun e => h (by simp [e])
    have hr : c ∉ r := fun hm => h (by simp [hm])
    rw [cutL, if_neg hb, cutL_free hr]
theorem cutL_at {c : UInt8} : ∀ {p r : List UInt8}, c ∉ p → cutL c (p ++ c :: r) = p :: cutL c r
  | [], r, _ => by rw [List.nil_append, cutL, if_pos rfl]
  | b :: p, r, h => by
    have hb : b ≠ c := fun e => h (by simp [e])
    have hr : c ∉ p := fun hm => h (by simp [hm])
    rw [List.cons_append, cutL, if_neg hb, cutL_at hr]
theorem indexByte_at {c : UInt8} : ∀ {p r : List UInt8}, c ∉ p → Lib.indexByte (p ++ c :: r) c = (p.length : Int)
  | [], r, _ => by simp [Lib.indexByte]
  | b :: p, r, h => by
    have hb : b ≠ c := fun e => h (by simp [e])
    have hr : c ∉ p := fun hm => h (by simp [hm])
    have hbc : (b == c) = false := by simp [hb]
    have hi := indexByte_at (r := r) hr
    rw [List.cons_append, Lib.indexByte, hbc, hi]
    have : ((p.length : Int) == -1) = false := by rw [beq_eq_false_iff_ne]; omega
    rw [this]
    simp
/-- cut at the first m strokes at most -/
def cutM (c : UInt8) (m : Nat) (s : List UInt8) : List (List UInt8) := Lib.splitK [c] 0 m s
theorem cutM_zero (c : UInt8) (s : List UInt8) : cutM c 0 s = [s] := rfl
theorem indexByte_free {c : UInt8} : ∀ {s : List UInt8}, c ∉ s → Lib.indexByte s c = -1
  | [], _ => rfl
  | b :: r, h => by
    have hb : b ≠ c := fun e => h (by simp [e])
    have hr : c ∉ r := fun hm => h (by simp [hm])
    have hbc : (b == c) = false := by simp [hb]
    rw [Lib.indexByte, hbc, indexByte_free hr]
    simp
theorem cutM_free {c : UInt8} {m : Nat} {s : List UInt8} (h : c ∉ s) : cutM c m s = [s] := by
  cases m with
  | zero => rfl
  | succ m =>
    unfold cutM Lib.splitK
    rw [Lib.index_one, indexByte_free h]
    simp
theorem cutM_at {c : UInt8} {m : Nat} {p r : List UInt8} (h : c ∉ p) : cutM c (m + 1) (p ++ c :: r) = p :: cutM c m r := by
  unfold cutM
  rw [Lib.splitK, Lib.index_one, indexByte_at h]
  have e : ((p.length : Int) == -1) = false := by rw [beq_eq_false_iff_ne]; omega
  rw [e]
  simp
theorem cut_first {c : UInt8} {s : List UInt8} (h : c ∈ s) : ∃ p r, s = p ++ c :: r ∧ c ∉ p := by
  induction s with
  | nil => cases h
  | cons b t ih =>
    by_cases hb : b = c
    · subst hb; exact ⟨[], t, rfl, by simp⟩
    · obtain ⟨p, r, rfl, hp⟩ := ih (by simpa [Ne.symm hb] using h)
      exact ⟨b :: p, r, rfl, by simp [Ne.symm hb, hp]⟩
theorem cutM_all {c : UInt8} : ∀ (m : Nat) (s : List UInt8), s.count c ≤ m → cutM c m s = cutL c s
  | 0, s, h => by
    have hf : c ∉ s := fun hm => by have := List.count_pos_iff.2 hm; omega
    rw [cutM_free hf, cutL_free hf]
  | m + 1, s, h => by
    by_cases hm : c ∈ s
    · obtain ⟨p, r, rfl, hp⟩ := cut_first hm
      have : r.count c ≤ m := by
        rw [List.count_append, List.count_cons_self] at h
        omega
      rw [cutM_at hp, cutL_at hp, cutM_all m r this]
    · rw [cutM_free hm, cutL_free hm]
theorem cutM_len {c : UInt8} : ∀ (m : Nat) (s : List UInt8), (cutM c m s).length = min m (s.count c) + 1
  | 0, s => by rw [cutM_zero]; simp
  | m + 1, s => by
    by_cases hm : c ∈ s
    · obtain ⟨p, r, rfl, hp⟩ := cut_first hm
      have hp0 : p.count c = 0 := List.count_eq_zero.2 hp
      rw [cutM_at hp, List.length_cons, cutM_len m r, List.count_append, List.count_cons_self, hp0]
      omega
    · rw [cutM_free hm, List.count_eq_zero.2 hm]; simp
/-- a path, by its bytes -/
def nameL (s : List UInt8) : Bool := withinB (s.length : Int) 1 6 && s.all wordB
def pathL (s : List UInt8) : Bool := decide ((cutL 47 s).length ≤ 3) && (cutL 47 s).all nameL
def pathB (s : ByteArray) : Bool := pathL s.data.toList
theorem nameB_L (s : ByteArray) : nameB s = nameL s.data.toList := by
  unfold nameB nameL
  rw [show s.data.toList.length = s.size from by simp]
theorem pathL_cut (s : List UInt8) : pathL s = (decide ((cutM 47 3 s).length ≤ 3) && (cutM 47 3 s).all nameL) := by
  by_cases h : s.count 47 ≤ 3
  · rw [cutM_all 3 s h]; rfl
  · have h1 := cutM_len (c := 47) 3 s
    have h2 : (cutL 47 s).length = s.count 47 + 1 := by
      have := cutM_len (c := 47) (s.count 47) s
      rw [cutM_all _ s (Nat.le_refl _)] at this
      omega
    have e1 : decide ((cutL 47 s).length ≤ 3) = false := decide_eq_false (by omega)
    have e2 : decide ((cutM 47 3 s).length ≤ 3) = false := decide_eq_false (by omega)
    rw [pathL, e1, e2]; rfl
end Go.Vc
