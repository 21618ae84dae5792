/-
  Plain law: resolved as one side has it nothing clashes. No program is in sight here.
-/
import Derived.Test.YtlpfoekbccbhlaaPlG
set_option linter.unusedVariables false
namespace Go.Vc

def mirror (p : Part) : Part := ⟨p.clash, p.lines, p.old, p.two, p.one⟩
theorem putL_mirror (out : List Part) (ls : List ByteArray) : putL (out.map mirror) ls = (putL out ls).map mirror := by
  unfold putL
  by_cases h0 : ls.length = 0
  · rw [if_pos h0, if_pos h0]
  · rw [if_neg h0, if_neg h0]
    by_cases h1 : 0 < out.length
    · have h1' : 0 < (out.map mirror).length := by simpa using h1
      rw [dif_pos h1, dif_pos h1']
      have e : (out.map mirror)[(out.map mirror).length - 1] = mirror out[out.length - 1] := by simp
      rw [e]
      have ec : (mirror out[out.length - 1]).clash = out[out.length - 1].clash := rfl
      rw [ec]
      split
      · simp [mirror]
      · rw [List.map_set]
        simp [mirror]
    · have h1' : ¬ 0 < (out.map mirror).length := by simpa using h1
      rw [dif_neg h1, dif_neg h1']
      simp [mirror]
theorem pieceG_mirror (out : List Part) (old one two : List ByteArray) : pieceG (out.map mirror) old two one = (pieceG out old one two).map mirror := by
  unfold pieceG
  by_cases h1 : one = old
  · by_cases h2 : two = old
    · subst h1; subst h2
      simp [putL_mirror]
    · have h3 : ¬ two = one := fun h => h2 (h.trans h1)
      rw [if_neg (by intro h; rcases h with h | h; exact h2 h; exact h3 h), if_pos h1, if_pos (.inl h1), putL_mirror]
  · by_cases h2 : one = two
    · subst h2
      rw [if_pos (.inr rfl), if_pos (.inr rfl), putL_mirror]
    · by_cases h3 : two = old
      · rw [if_pos (.inl h3), if_neg (by intro h; rcases h with h | h; exact h1 h; exact h2 h), if_pos h3, putL_mirror]
      · rw [if_neg (by intro h; rcases h with h | h; exact h3 h; exact h2 h.symm), if_neg h1, if_neg (by intro h; rcases h with h | h; exact h1 h; exact h2 h), if_neg h3]
        simp [mirror]
theorem putO_mirror (o : List ByteArray) (i : Nat) (out : List Part) : putO o i (out.map mirror) = (putO o i out).map mirror := by
  unfold putO
  split
  · exact putL_mirror _ _
  · rfl
theorem mg_mirror (o a b : List ByteArray) : ∀ (ps qs : List Int) (i fo fa fb : Nat) (out : List Part), mg o b a qs ps i fo fb fa (out.map mirror) = (mg o a b ps qs i fo fa fb out).map mirror
  | [], [], _, _, _, _, out => by rw [mg, mg] <;> (intros; simp_all)
  | [], _ :: _, _, _, _, _, out => by rw [mg, mg] <;> (intros; simp_all)
  | _ :: _, [], _, _, _, _, out => by rw [mg, mg] <;> (intros; simp_all)
  | p :: ps, q :: qs, i, fo, fa, fb, out => by
    rw [mg, mg]
    by_cases h : p < 0 ∨ q < 0
    · rw [if_pos h, if_pos (by omega)]
      exact mg_mirror o a b ps qs _ _ _ _ out
    · rw [if_neg h, if_neg (by omega), pieceG_mirror, putO_mirror]
      exact mg_mirror o a b ps qs _ _ _ _ _
theorem mergeT_mirror (o a b : List ByteArray) : mergeT o b a = (mergeT o a b).map mirror := by
  unfold mergeT
  exact mg_mirror o a b _ _ 0 0 0 0 []
def turnS (s : Int) : Int := if 0 < s then 3 - s else s
theorem sideOf_mirror {s : Int} (h : 0 ≤ s ∧ s ≤ 2) (p : Part) : sideOf (turnS s) (mirror p) = sideOf s p := by
  unfold sideOf turnS mirror
  obtain rfl | rfl | rfl : s = 0 ∨ s = 1 ∨ s = 2 := by omega
  all_goals simp
theorem sideF_mirror {s : Int} (h : 0 ≤ s ∧ s ≤ 2) (P : List Part) : sideF (turnS s) (P.map mirror) = sideF s P := by
  unfold sideF
  rw [List.map_map]
  congr 1
  refine List.map_congr_left fun p _ => sideOf_mirror h p
theorem threeB_swap (o a b : List ByteArray) : threeB o b a = threeB o a b := by
  unfold threeB
  cases textB o <;> cases textB a <;> cases textB b <;> rfl
theorem withinS {s : Int} : withinB s 0 2 = true ↔ 0 ≤ s ∧ s ≤ 2 := by simp [withinB]
theorem mSide_true {o a b x : List ByteArray} {s : Int} (h : mSide o a b s = (x, true)) : threeB o a b = true ∧ (0 ≤ s ∧ s ≤ 2) ∧ sideF s (mergeT o a b) = x ∧ textB x = true := by
  unfold mSide at h
  by_cases h1 : threeB o a b = true ∧ withinB s 0 2 = true
  · rw [if_pos h1] at h
    unfold pFin at h
    simp only at h
    by_cases h2 : textB (sideF s (mergeT o a b)) = true
    · rw [if_pos h2] at h
      simp only [Prod.mk.injEq, and_true] at h
      exact ⟨h1.1, withinS.1 h1.2, h, h ▸ h2⟩
    · rw [if_neg h2] at h
      simp at h
  · rw [if_neg h1] at h
    simp at h
theorem mSide_turn {o a b x : List ByteArray} {s : Int} (h : mSide o a b s = (x, true)) : mSide o b a (turnS s) = (x, true) := by
  obtain ⟨h1, h2, h3, h4⟩ := mSide_true h
  have hs : 0 ≤ turnS s ∧ turnS s ≤ 2 := by unfold turnS; split <;> omega
  unfold mSide
  rw [if_pos ⟨by rw [threeB_swap]; exact h1, withinS.2 hs⟩, mergeT_mirror, sideF_mirror h2, h3, pFin, if_pos h4]
theorem textF_side (s : Int) : ∀ (P : List Part) (out z : List ByteArray), textF P out = some z → z = out ++ sideF s P
  | [], out, z, h => by
    simp only [textF, Option.some.injEq] at h
    simp [sideF, h]
  | p :: r, out, z, h => by
    rw [textF] at h
    by_cases hc : p.clash = true
    · rw [if_pos hc] at h; cases h
    · rw [if_neg hc] at h
      have := textF_side s r _ z h
      rw [this]
      simp [sideF, sideOf, hc]
theorem mText_true {o a b z : List ByteArray} (h : mText o a b = (z, true)) : threeB o a b = true ∧ textF (mergeT o a b) [] = some z ∧ textB z = true := by
  unfold mText at h
  by_cases h1 : threeB o a b = true
  · rw [if_pos h1] at h
    cases hf : textF (mergeT o a b) [] with
    | none => rw [hf] at h; simp [pFin] at h
    | some y =>
      rw [hf, pFin] at h
      by_cases h2 : textB y = true
      · rw [if_pos h2] at h
        simp only [Prod.mk.injEq, and_true] at h
        subst h
        exact ⟨h1, rfl, h2⟩
      · rw [if_neg h2] at h; simp at h
  · rw [if_neg h1] at h; simp at h
theorem mText_side {o a b x z : List ByteArray} {s : Int} (h : mSide o a b s = (x, true)) (hz : mText o a b = (z, true)) : z = x := by
  obtain ⟨_, _, h3, _⟩ := mSide_true h
  obtain ⟨_, h5, _⟩ := mText_true hz
  have := textF_side s _ _ _ h5
  rw [this, h3]; rfl
end Go.Vc
