/-
  Plain law: the differences of two texts, put into the first, make the second. No program is in sight here.
-/
import Derived.Test.YtlokkbllplhlbaaPlD
set_option linter.unusedVariables false
namespace Go.Vc

/-- pairs of lines that are one, up to the ends -/
def okM (a b : List ByteArray) : List Int → Nat → Nat → Nat → Prop
  | [], i, fa, fb => i = a.length + 1 ∧ fa = i ∧ fb = b.length + 1
  | m :: ms, i, fa, fb => (m = -1 ∧ i < a.length ∧ okM a b ms (i + 1) fa fb) ∨
      ∃ k : Nat, m = (k : Int) ∧ fb ≤ k ∧ k ≤ b.length ∧ ((∃ (hi : i < a.length) (hk : k < b.length), a[i] = b[k]) ∨ (i = a.length ∧ k = b.length)) ∧ okM a b ms (i + 1) (i + 1) (k + 1)
theorem mt_ok (a b : List ByteArray) (r : List ByteArray) (j : Nat) : ∀ (i fa fb : Nat), r = a.drop i → i ≤ a.length → fb ≤ j → j ≤ b.length → okM a b (mt b r j ++ [(b.length : Int)]) i fa fb := by
  induction r, j using mt.induct (b := b) with
  | case1 j =>
    intro i fa fb ha hi hf hj
    have : a.length ≤ i := by
      have := congrArg List.length ha
      simp at this; omega
    obtain rfl : i = a.length := by omega
    rw [mt_nil, List.nil_append]
    exact .inr ⟨b.length, rfl, by omega, Nat.le_refl _, .inr ⟨rfl, rfl⟩, rfl, rfl, rfl⟩
  | case2 j r hj ih =>
    intro i fa fb ha hi hf hjl
    have hl : i < a.length := by
      have := congrArg List.length ha
      simp at this; omega
    rw [drop_cons a i hl] at ha
    injection ha with e1 e2
    rw [mt, dif_pos hj, if_pos rfl, List.cons_append]
    exact .inr ⟨j, rfl, hf, hjl, .inl ⟨hl, hj, e1.symm⟩, ih (i + 1) (i + 1) (j + 1) e2 hl (Nat.le_refl _) hj⟩
  | case3 x j r hj e h ih =>
    intro i fa fb ha hi hf hjl
    have hl : i < a.length := by
      have := congrArg List.length ha
      simp at this; omega
    rw [drop_cons a i hl] at ha
    injection ha with e1 e2
    rw [mt, dif_pos hj, if_neg e, if_pos h, List.cons_append]
    exact .inl ⟨rfl, hl, ih (i + 1) fa fb e2 hl hf hjl⟩
  | case4 x j r hj e h ih =>
    intro i fa fb ha hi hf hjl
    rw [mt, dif_pos hj, if_neg e, if_neg h]
    exact ih i fa fb ha hi (by omega) hj
  | case5 x j r hj ih =>
    intro i fa fb ha hi hf hjl
    have hl : i < a.length := by
      have := congrArg List.length ha
      simp at this; omega
    rw [drop_cons a i hl] at ha
    injection ha with e1 e2
    rw [mt, dif_neg hj, List.cons_append]
    exact .inl ⟨rfl, hl, ih (i + 1) fa fb e2 hl hf hjl⟩
theorem pairs_ok (a b : List ByteArray) : okM a b (pairsT a b) 0 0 0 := mt_ok a b a 0 0 0 0 rfl (Nat.zero_le _) (Nat.le_refl _) (Nat.zero_le _)

theorem cutF_same (a : List ByteArray) (f : Nat) : cutF a f f = [] := by simp [cutF]
theorem cutF_all {a : List ByteArray} {f i : Nat} (h : a.length ≤ i) : cutF a f i = a.drop f := by
  unfold cutF
  exact List.take_of_length_le (by simp; omega)
theorem cutF_snoc {a : List ByteArray} {f i : Nat} (h1 : f ≤ i) (h2 : i < a.length) : cutF a f (i + 1) = cutF a f i ++ [a[i]] := by
  unfold cutF
  have e : i + 1 - f = (i - f) + 1 := by omega
  have hl : i - f < (a.drop f).length := by simp; omega
  rw [e, List.take_succ_eq_append_getElem hl]
  congr 2
  rw [List.getElem_drop]
  congr 1
  omega
theorem cutF_take {b : List ByteArray} {f k : Nat} (h : f ≤ k) : b.take f ++ cutF b f k = b.take k := by
  unfold cutF
  have e : k = f + (k - f) := by omega
  conv => rhs; rw [e, List.take_add]
/-- the pieces put in -/
theorem do_df (a b : List ByteArray) : ∀ (ms : List Int) (i fa fb fr : Nat) (out : List ByteArray), okM a b ms i fa fb → fr ≤ fa → fa ≤ i → out ++ cutF a fr fa = b.take fb → doF a (df a b ms i fa fb) fr out = some b
  | [], i, fa, fb, fr, out, ho, h1, h2, he => by
    obtain ⟨r1, r2, r3⟩ := ho
    subst r1; subst r2; subst r3
    rw [df, doF, ← cutF_all (a := a) (f := fr) (i := a.length + 1) (by omega), he, List.take_of_length_le (by omega)]
  | m :: ms, i, fa, fb, fr, out, ho, h1, h2, he => by
    rcases ho with ⟨rfl, hi, ho⟩ | ⟨k, rfl, hf, hk, hm, ho⟩
    · rw [df, if_pos (by omega)]
      exact do_df a b ms (i + 1) fa fb fr out ho h1 (by omega) he
    · have hia : i ≤ a.length := by rcases hm with ⟨h, _⟩ | ⟨h, _⟩ <;> omega
      rw [df, if_neg (by omega), Int.toNat_natCast]
      by_cases hg : fa < i ∨ fb < k
      · rw [if_pos hg, doF]
        have hl := cutF_len (a := a) h2 hia
        simp only [Int.toNat_natCast, hl]
        rw [if_neg (by omega), if_pos (by rfl)]
        have e1 : fa + (i - fa) = i := by omega
        rw [e1]
        refine do_df a b ms (i + 1) (i + 1) (k + 1) i _ ho (by omega) (Nat.le_refl _) ?_
        rw [he, cutF_take hf]
        rcases hm with ⟨h3, h4, h5⟩ | ⟨h3, h4⟩
        · rw [cutF_snoc (Nat.le_refl i) h3, cutF_same, List.nil_append, h5, ← List.take_succ_eq_append_getElem h4]
        · subst h3; subst h4
          rw [cutF_all (a := a) (f := a.length) (by omega), List.drop_length, List.append_nil, List.take_of_length_le (Nat.le_refl _), List.take_of_length_le (by omega)]
      · rw [if_neg hg]
        obtain rfl : fa = i := by omega
        obtain rfl : fb = k := by omega
        refine do_df a b ms (fa + 1) (fa + 1) (fb + 1) fr out ho (by omega) (Nat.le_refl _) ?_
        rcases hm with ⟨h3, h4, h5⟩ | ⟨h3, h4⟩
        · rw [cutF_snoc h1 h3, ← List.append_assoc, he, h5, ← List.take_succ_eq_append_getElem h4]
        · subst h3; subst h4
          rw [cutF_all (by omega), ← cutF_all (a := a) (f := fr) (Nat.le_refl _), he, List.take_of_length_le (Nat.le_refl _), List.take_of_length_le (by omega)]

/-- pieces in order from lo on -/
def chainH (lo : Nat) : List Hunk → Prop
  | [] => True
  | h :: r => (lo : Int) ≤ h.at_ ∧ hunkB h = true ∧ chainH (h.at_.toNat + h.less.length + 1) r
theorem chain_at : ∀ {d : List Hunk} {lo : Nat}, chainH lo d → ∀ (i : Nat) (hi : i < d.length), hunkB d[i] = true ∧ (lo : Int) ≤ d[i].at_
  | h :: r, lo, ⟨h1, h2, h3⟩, 0, _ => ⟨h2, h1⟩
  | h :: r, lo, ⟨h1, h2, h3⟩, i + 1, hi => by
    have := chain_at h3 i (by simpa using hi)
    refine ⟨by simpa using this.1, ?_⟩
    have h4 := this.2
    simp only [List.getElem_cons_succ]
    omega
theorem chain_gap : ∀ {d : List Hunk} {lo : Nat}, chainH lo d → ∀ (i : Nat) (hi : i + 1 < d.length), d[i].at_ + d[i].less.length < d[i + 1].at_
  | h :: r, lo, ⟨h1, h2, h3⟩, 0, hi => by
    have := (chain_at h3 0 (by simpa using hi)).2
    simp only [List.getElem_cons_zero, List.getElem_cons_succ]
    omega
  | h :: r, lo, ⟨h1, h2, h3⟩, i + 1, hi => by
    have := chain_gap h3 i (by simpa using hi)
    simpa using this
theorem chain_patch {d : List Hunk} {lo : Nat} (h : chainH lo d) (hl : d.length ≤ 8) : patchB d = true := by
  refine (patchB_iff d).2 ⟨hl, fun i hi => ⟨?_, ?_⟩⟩
  · rw [getD_hunk hi]; exact (chain_at h i hi).1
  · by_cases h0 : 0 < i
    · rw [gapB_pos h0 hi]
      have := chain_gap h (i - 1) (by omega)
      have e : i - 1 + 1 = i := by omega
      simp only [e] at this
      exact decide_eq_true this
    · unfold gapB
      rw [decide_eq_true (by omega : i = 0), Bool.true_or]
theorem textB_iff' (t : List ByteArray) : textB t = true ↔ t.length ≤ 10 ∧ ∀ s, s ∈ t → lineB s = true := by simp [textB]
theorem textB_cut {a : List ByteArray} (h : textB a = true) (f i : Nat) : textB (cutF a f i) = true := by
  rw [textB_iff'] at h ⊢
  refine ⟨?_, fun s hs => h.2 s (List.mem_of_mem_drop (List.mem_of_mem_take hs))⟩
  have : (cutF a f i).length ≤ a.length := by unfold cutF; simp; omega
  omega
theorem df_chain {a b : List ByteArray} (ha : textB a = true) (hb : textB b = true) : ∀ (ms : List Int) (i fa fb : Nat), okM a b ms i fa fb → fa ≤ i → chainH fa (df a b ms i fa fb) ∧ 3 * (df a b ms i fa fb).length + fa + fb ≤ a.length + 1 + (b.length + 1)
  | [], i, fa, fb, ho, h2 => by
    obtain ⟨r1, r2, r3⟩ := ho
    subst r1; subst r2; subst r3
    exact ⟨trivial, by simp [df]⟩
  | m :: ms, i, fa, fb, ho, h2 => by
    rcases ho with ⟨rfl, hi, ho⟩ | ⟨k, rfl, hf, hk, hm, ho⟩
    · rw [df, if_pos (by omega)]
      exact df_chain ha hb ms (i + 1) fa fb ho (by omega)
    · have hia : i ≤ a.length := by rcases hm with ⟨h, _⟩ | ⟨h, _⟩ <;> omega
      have ih := df_chain ha hb ms (i + 1) (i + 1) (k + 1) ho (Nat.le_refl _)
      have h10 := text_len10 ha
      rw [df, if_neg (by omega), Int.toNat_natCast]
      by_cases hg : fa < i ∨ fb < k
      · rw [if_pos hg]
        have hl := cutF_len (a := a) h2 hia
        have hl2 := cutF_len (a := b) hf hk
        refine ⟨⟨Int.le_refl _, ?_, ?_⟩, by rw [List.length_cons]; omega⟩
        · rw [hunkB_iff]
          refine ⟨⟨by simp, by simp; omega⟩, textB_cut ha _ _, textB_cut hb _ _, ?_⟩
          simp only [hl, hl2]; omega
        · simp only [Int.toNat_natCast, hl]
          have e : fa + (i - fa) + 1 = i + 1 := by omega
          rw [e]
          exact ih.1
      · rw [if_neg hg]
        obtain rfl : fa = i := by omega
        refine ⟨?_, by omega⟩
        cases hd : df a b ms (fa + 1) (fa + 1) (k + 1) with
        | nil => trivial
        | cons x r =>
          have := ih.1
          rw [hd] at this
          exact ⟨by have := this.1; omega, this.2⟩
/-- the law -/
theorem diff_do {a b : List ByteArray} (ha : textB a = true) (hb : textB b = true) : pDo a (diffT a b) = (b, true) := by
  have h := df_chain ha hb (pairsT a b) 0 0 0 (pairs_ok a b) (Nat.le_refl _)
  have ha10 := text_len10 ha
  have hb10 := text_len10 hb
  have hp : patchB (diffT a b) = true := chain_patch h.1 (by unfold diffT; omega)
  rw [pDo_ok ha hp]
  exact pDoF_some (do_df a b (pairsT a b) 0 0 0 0 [] (pairs_ok a b) (Nat.le_refl _) (Nat.le_refl _) (by simp [cutF])) hb
theorem pOver_do {t : List ByteArray} {a b : List Hunk} {d : List Hunk} (h : pOver t a b = (d, true)) : ∃ x y, pDo t a = (x, true) ∧ pDo x b = (y, true) ∧ pDo t d = (y, true) := by
  unfold pOver at h
  by_cases hc : (pDo t a).2 = true ∧ (pDo (pDo t a).1 b).2 = true
  · rw [if_pos hc] at h
    simp only [Prod.mk.injEq, and_true] at h
    refine ⟨(pDo t a).1, (pDo (pDo t a).1 b).1, ?_, ?_, ?_⟩
    · rw [← hc.1]
    · rw [← hc.2]
    · rw [← h]; exact diff_do (pDo_text hc.1).1 (pDo_text hc.2).2.2
  · rw [if_neg hc] at h; simp at h
end Go.Vc
