/-
  Plain law: what is told as lost is lost, and no longer when the file is there. No program is in sight here.
-/
import Derived.Test.YtfpneepnnoldeaaDoorVPB
set_option linter.unusedVariables false
namespace Go.Vc
theorem lostL_mem2 {t : List File} {p : ByteArray} : ∀ {xs : List ByteArray} {k : Nat} {x : Lost}, x ∈ lostL t p xs k → x.path = p ∧ ∃ i, ∃ h : i < xs.length, x.line = ((k + i : Nat) : Int) ∧ x.ref = refT xs[i] ∧ badB t xs[i] = true
  | [], _, _, h => by cases h
  | s :: r, k, x, h => by
    rw [lostL] at h
    rcases List.mem_append.1 h with h | h
    · split at h
      · rename_i hb
        obtain rfl := List.mem_singleton.1 h
        exact ⟨rfl, 0, by simp, rfl, rfl, hb⟩
      · cases h
    · obtain ⟨h1, i, h2, h3, h4, h5⟩ := lostL_mem2 h
      exact ⟨h1, i + 1, by simp; omega, by rw [h3]; congr 1; omega, by simpa using h4, by simpa using h5⟩
theorem lostA_in {t : List File} : ∀ {fs : List File} {x : Lost}, x ∈ lostA t fs → ∃ f, f ∈ fs ∧ x ∈ lostL t f.path f.text 0
  | [], _, h => by cases h
  | f :: r, x, h => by
    rw [lostA] at h
    rcases List.mem_append.1 h with h | h
    · exact ⟨f, List.mem_cons_self .., h⟩
    · obtain ⟨g, h1, h2⟩ := lostA_in h
      exact ⟨g, List.mem_cons_of_mem _ h1, h2⟩
theorem bad_is {t : List File} {s : ByteArray} (h : badB t s = true) : ¬ refT s = ⟨#[]⟩ ∧ getT t (refT s) = none := by
  unfold badB at h
  rw [Bool.and_eq_true] at h
  refine ⟨by simpa using h.1, ?_⟩
  have := h.2
  cases hg : getT t (refT s) with
  | none => rfl
  | some x => rw [hg] at this; cases this
theorem see_ref {s : ByteArray} (h : ¬ refT s = ⟨#[]⟩) : s = seeT ++ refT s := by
  have h1 := hit_see (path := refT s) (s := s) h
  rw [hit_path h, decide_eq_true rfl] at h1
  exact of_decide_eq_true h1.symm
theorem line_twelve {t : List ByteArray} (h : textB t = true) {s : ByteArray} (hs : s ∈ t) : s.size ≤ 12 := by
  unfold textB at h
  rw [Bool.and_eq_true] at h
  have := List.all_eq_true.1 h.2 s hs
  unfold lineB at this
  rw [Bool.and_eq_true] at this
  exact of_decide_eq_true this.1
/-- one that is told -/
theorem ruleLost_at {t : List File} (hT : treeB t = true) {L : List Lost} (hL : ruleLost t = L) {i : Nat} (hi : i < L.length) :
    ∃ tx, ∃ n : Nat, ∃ h : n < tx.length, treeGet t L[i].path = some tx ∧ L[i].line = (n : Int) ∧ tx[n] = seeT ++ L[i].ref ∧ treeGet t L[i].ref = none ∧ L[i].ref.size ≤ 12 ∧ (∃ f, f ∈ t ∧ f.path = L[i].path ∧ f.text = tx) := by
  have e : ruleLost t = lostA t t := if_pos hT
  rw [e] at hL
  have hm : L[i] ∈ lostA t t := by rw [hL]; exact List.getElem_mem hi
  obtain ⟨f, hf, hx⟩ := lostA_in hm
  obtain ⟨h1, n, hn, h2, h3, h4⟩ := lostL_mem2 hx
  obtain ⟨h5, h6⟩ := bad_is h4
  have h7 := line_twelve ((((tree_iff t).1 hT).2.1 f hf).2) (List.getElem_mem hn)
  refine ⟨f.text, n, hn, by rw [treeGet_ok hT, h1]; exact getT_of (dist_tree hT) hf, by rw [h2, Nat.zero_add], by rw [h3]; exact see_ref h5, by rw [treeGet_ok hT, h3]; exact h6, by rw [h3]; exact Nat.le_trans (refT_size _) h7, f, hf, h1.symm, rfl⟩
/-- with the file there none is told that refers to it -/
theorem ruleLost_set {t x : List File} {p : ByteArray} {tx : List ByteArray} (hT : treeB t = true) (hb : setB t ⟨p, tx⟩ = true) (hx : treeSet t ⟨p, tx⟩ = x) {L : List Lost} (hL : ruleLost x = L) {i : Nat} (hi : i < L.length) : ¬ L[i].ref = p := fun he => by
  obtain ⟨hTx, hg, _⟩ := treeSet_yes hT hb hx
  obtain ⟨_, _, _, _, _, _, h, _⟩ := ruleLost_at hTx hL hi
  rw [he, hg] at h
  cases h
end Go.Vc
