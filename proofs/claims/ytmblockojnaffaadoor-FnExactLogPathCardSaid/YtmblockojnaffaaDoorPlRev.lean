/-
  Plain functions: a list turned round. No program is in sight here.
-/
import Derived.Test.YtmblockojnaffaaDoorPlLive
set_option linter.unusedVariables false
namespace Go.Vc
/-- the first k and the last k are swapped -/
def revOk (xs ys : List Int) (k : Nat) : Prop := ys.length = xs.length ∧ ∀ t, t < xs.length → ys[t]? = if t < k ∨ xs.length ≤ t + k then xs[xs.length - 1 - t]? else xs[t]?
theorem revOk_start (xs : List Int) : revOk xs xs 0 := ⟨rfl, fun t ht => by rw [if_neg (by omega)]⟩
theorem revOk_next {xs ys : List Int} {k j : Nat} (h : revOk xs ys k) (hj : j + k + 1 = xs.length) (hk : k < j) {a b : Int} (ha : ys[k]? = some a) (hb : ys[j]? = some b) : revOk xs ((ys.set k b).set j a) (k + 1) := by
  obtain ⟨hl, h⟩ := h
  refine ⟨by simpa using hl, fun t ht => ?_⟩
  have hka := h k (by omega)
  have hjb := h j (by omega)
  rw [if_neg (by omega)] at hka hjb
  rw [ha] at hka
  rw [hb] at hjb
  by_cases e1 : t = j
  · subst e1
    rw [if_pos (by omega)]
    have e : xs.length - 1 - t = k := by omega
    rw [e, ← hka]
    simp [hl, ht]
  · rw [List.getElem?_set_ne (by omega)]
    by_cases e2 : t = k
    · subst e2
      rw [if_pos (by omega)]
      have e : xs.length - 1 - t = j := by omega
      rw [e, ← hjb]
      simp [hl, ht]
    · rw [List.getElem?_set_ne (by omega), h t ht]
      by_cases c : t < k ∨ xs.length ≤ t + k
      · rw [if_pos c, if_pos (by omega)]
      · rw [if_neg c, if_neg (by omega)]
theorem revOk_end {xs ys : List Int} {k : Nat} (h : revOk xs ys k) (hk : ¬ 2 * k + 1 < xs.length) : ys = xs.reverse := by
  obtain ⟨hl, h⟩ := h
  refine List.ext_getElem? fun t => ?_
  by_cases ht : t < xs.length
  · rw [h t ht, List.getElem?_reverse ht]
    split
    · rfl
    · rw [show xs.length - 1 - t = t by omega]
  · rw [List.getElem?_eq_none (by omega), List.getElem?_eq_none (by simp; omega)]
end Go.Vc
