/-
  Plain law: pieces that are made of a text are made of any text that begins with it. No program is in sight here.
-/
import Derived.Test.YtjfhbepnomnalaaPlain5
namespace Go.Vc

theorem applyD_more (t m : List ByteArray) : ∀ (ds : List Delta) (out r : List ByteArray), (∀ d, d ∈ ds → 0 ≤ d.fr ∧ 0 ≤ d.many) → applyD t ds out = some r → applyD (t ++ m) ds out = some r
  | [], out, r, _, h => h
  | d :: ds, out, r, hd, h => by
    obtain ⟨h1, h2⟩ := hd d (by simp)
    rw [applyD] at h ⊢
    by_cases hc : (t.length : Int) < d.fr + d.many
    · rw [if_pos hc] at h; cases h
    · rw [if_neg hc] at h
      have hc2 : ¬ ((t ++ m).length : Int) < d.fr + d.many := by simp; omega
      rw [if_neg hc2]
      have e : ((t ++ m).drop d.fr.toNat).take d.many.toNat = (t.drop d.fr.toNat).take d.many.toNat := by
        rw [List.drop_append_of_le_length (by omega), List.take_append_of_le_length (by simp; omega)]
      rw [e]
      exact applyD_more t m ds _ r (fun x hx => hd x (List.mem_cons_of_mem _ hx)) h

/-- what is known where it could be made -/
theorem dDo_true {t x : List ByteArray} {ds : List Delta} (h : dDo t ds = (x, true)) : textB t = true ∧ deltaB ds = true ∧ textB x = true ∧ applyD t ds [] = some x := by
  unfold dDo at h
  split at h
  · rename_i h1
    split at h
    · rename_i h2
      unfold doB at h
      split at h
      · rename_i out ho
        split at h
        · rename_i h3
          simp only [Prod.mk.injEq, and_true] at h
          subst h
          exact ⟨h1, h2, h3, ho⟩
        · simp at h
      · simp at h
    · simp at h
  · simp at h
theorem dDo_more {t x : List ByteArray} {ds : List Delta} (h : dDo t ds = (x, true)) (hl : t.length < 10) (y : ByteArray) (hy : lineB y = true) : dDo (t ++ [y]) ds = (x, true) := by
  obtain ⟨h1, h2, h3, h4⟩ := dDo_true h
  have ht : textB (t ++ [y]) = true := by
    obtain ⟨h5, h6⟩ := (textB_iff t).1 h1
    refine (textB_iff _).2 ⟨by simp; omega, fun l hm => ?_⟩
    rcases List.mem_append.1 hm with hm | hm
    · exact h6 l hm
    · simp at hm; subst hm; exact hy
  have hp : ∀ d, d ∈ ds → 0 ≤ d.fr ∧ 0 ≤ d.many := fun d hd => by
    obtain ⟨i, hi, rfl⟩ := List.getElem_of_mem hd
    have := piece_facts (deltaB_at h2 hi)
    exact ⟨this.1, this.2.2.1⟩
  rw [dDo_ok ht h2]
  exact doB_some (applyD_more t [y] ds [] x hp h4) h3
end Go.Vc
