/-
  Plain law: what is told as lost is lost, and no longer when the file is there. No program is in sight here. / Plain law: what is told as newly lost. No program is in sight here. / Walks: lists of what is lost, compared.
-/
import Derived.Test.YtegknjcifmenpaaGreatDoorVPB
import Derived.Test.YtegknjcifmenpaaGreatDoorLost0
import Derived.Test.YtegknjcifmenpaaGreatDoorVSM
set_option linter.unusedVariables false
namespace Go.Vc
theorem lostL_mem2 {t : List File} {p : ByteArray} : ∀ {xs : List ByteArray} {k : Nat} {x : Lost}, x ∈ lostL t p xs k → x.path = p ∧ ∃ i, ∃ h : i < xs.length, x.line = ((k + i : Nat) : Int) ∧ x.ref = refT xs[i] ∧ badB t xs[i] = true
  | [], _, _, h => by cases h
  | s :: r, k, x, h => by
    rw [lostL] at h
    rcases List.mem_append.1 h with h | h
    · split at h
      · rename_i hb
        obtain rfl := List.mem_singleton.1 h
        exact ⟨rfl, 0, by simp, rfl, rfl, hb⟩
      · cases h
    · obtain ⟨h1, i, h2, h3, h4, h5⟩ := lostL_mem2 h
      exact ⟨h1, i + 1, by simp; omega, by rw [h3]; congr 1; omega, by simpa using h4, by simpa using h5⟩
theorem lostA_in {t : List File} : ∀ {fs : List File} {x : Lost}, x ∈ lostA t fs → ∃ f, f ∈ fs ∧ x ∈ lostL t f.path f.text 0
  | [], _, h => by cases h
  | f :: r, x, h => by
    rw [lostA] at h
    rcases List.mem_append.1 h with h | h
    · exact ⟨f, List.mem_cons_self .., h⟩
    · obtain ⟨g, h1, h2⟩ := lostA_in h
      exact ⟨g, List.mem_cons_of_mem _ h1, h2⟩
theorem bad_is {t : List File} {s : ByteArray} (h : badB t s = true) : ¬ refT s = ⟨#[]⟩ ∧ getT t (refT s) = none := by
  unfold badB at h
  rw [Bool.and_eq_true] at h
  refine ⟨by simpa using h.1, ?_⟩
  have := h.2
  cases hg : getT t (refT s) with
  | none => rfl
  | some x => rw [hg] at this; cases this
theorem see_ref {s : ByteArray} (h : ¬ refT s = ⟨#[]⟩) : s = seeT ++ refT s := by
  have h1 := hit_see (path := refT s) (s := s) h
  rw [hit_path h, decide_eq_true rfl] at h1
  exact of_decide_eq_true h1.symm
theorem line_twelve {t : List ByteArray} (h : textB t = true) {s : ByteArray} (hs : s ∈ t) : s.size ≤ 12 := by
  unfold textB at h
  rw [Bool.and_eq_true] at h
  have := List.all_eq_true.1 h.2 s hs
  unfold lineB at this
  rw [Bool.and_eq_true] at this
  exact of_decide_eq_true this.1
/-- one that is told -/
theorem ruleLost_at {t : List File} (hT : treeB t = true) {L : List Lost} (hL : ruleLost t = L) {i : Nat} (hi : i < L.length) :
    ∃ tx, ∃ n : Nat, ∃ h : n < tx.length, treeGet t L[i].path = some tx ∧ L[i].line = (n : Int) ∧ tx[n] = seeT ++ L[i].ref ∧ treeGet t L[i].ref = none ∧ L[i].ref.size ≤ 12 ∧ (∃ f, f ∈ t ∧ f.path = L[i].path ∧ f.text = tx) := by
  have e : ruleLost t = lostA t t := if_pos hT
  rw [e] at hL
  have hm : L[i] ∈ lostA t t := by rw [hL]; exact List.getElem_mem hi
  obtain ⟨f, hf, hx⟩ := lostA_in hm
  obtain ⟨h1, n, hn, h2, h3, h4⟩ := lostL_mem2 hx
  obtain ⟨h5, h6⟩ := bad_is h4
  have h7 := line_twelve ((((tree_iff t).1 hT).2.1 f hf).2) (List.getElem_mem hn)
  refine ⟨f.text, n, hn, by rw [treeGet_ok hT, h1]; exact getT_of (dist_tree hT) hf, by rw [h2, Nat.zero_add], by rw [h3]; exact see_ref h5, by rw [treeGet_ok hT, h3]; exact h6, by rw [h3]; exact Nat.le_trans (refT_size _) h7, f, hf, h1.symm, rfl⟩
/-- with the file there none is told that refers to it -/
theorem ruleLost_set {t x : List File} {p : ByteArray} {tx : List ByteArray} (hT : treeB t = true) (hb : setB t ⟨p, tx⟩ = true) (hx : treeSet t ⟨p, tx⟩ = x) {L : List Lost} (hL : ruleLost x = L) {i : Nat} (hi : i < L.length) : ¬ L[i].ref = p := fun he => by
  obtain ⟨hTx, hg, _⟩ := treeSet_yes hT hb hx
  obtain ⟨_, _, _, _, _, _, h, _⟩ := ruleLost_at hTx hL hi
  rw [he, hg] at h
  cases h
end Go.Vc
namespace Go.Vc
theorem moreA_sub {a b : List File} {x : Lost} : ∀ {fs : List File}, x ∈ moreA a b fs → x ∈ lostA b fs
  | [], h => by cases h
  | f :: r, h => by
    rw [moreA] at h
    rw [lostA]
    rcases List.mem_append.1 h with h | h
    · exact List.mem_append.2 (.inl (List.mem_filter.1 h).1)
    · exact List.mem_append.2 (.inr (moreA_sub h))
theorem ruleMore_sub {a b : List File} (hb : treeB b = true) {x : Lost} (h : x ∈ ruleMore a b) : x ∈ ruleLost b := by
  unfold ruleMore at h
  unfold ruleLost
  rw [if_pos hb]
  split at h
  · exact moreA_sub h
  · cases h
theorem mt_selfget (o : List ByteArray) : ∀ (n i : Nat), i + n < o.length → (mt o (o.drop i) i).getD n 0 = ((i + n : Nat) : Int)
  | 0, i, h => by
    rw [Nat.add_zero] at h ⊢
    rw [mt_next (a := o) (b := o) h h rfl]
    rfl
  | n + 1, i, h => by
    rw [mt_next (a := o) (b := o) (i := i) (j := i) (by omega) (by omega) rfl, List.getD_cons_succ, mt_selfget o n (i + 1) (by omega)]
    congr 1
    omega
theorem match_selfget (o : List ByteArray) {n : Nat} (h : n < o.length) : (matchT o o).getD n 0 = (n : Int) := by
  have := mt_selfget o n 0 (by omega)
  rw [List.drop_zero, Nat.zero_add] at this
  exact this
theorem moreF_self {a : List File} (ha : DistF a) {f : File} (hf : f ∈ a) : moreF a a f = [] := by
  unfold moreF
  rw [known_some (getT_of ha hf), List.filter_eq_nil_iff]
  intro x hx
  obtain ⟨_, i, hi, h3, _, _⟩ := lostL_mem2 hx
  rw [Nat.zero_add] at h3
  have : lineIn (knownL f.text f.text (lostL a f.path f.text 0)) x.line = true := by
    rw [lineIn_any, knownL, List.any_map, List.any_eq_true]
    refine ⟨x, hx, ?_⟩
    show decide ((matchT f.text f.text).getD x.line.toNat 0 = x.line) = true
    rw [h3, Int.toNat_natCast, match_selfget f.text hi]
    exact decide_eq_true rfl
  rw [this]
  simp
theorem moreA_none {a b : List File} : ∀ {fs : List File}, (∀ f, f ∈ fs → moreF a b f = []) → moreA a b fs = []
  | [], _ => rfl
  | f :: r, h => by rw [moreA, h f (List.mem_cons_self ..), moreA_none fun g hg => h g (List.mem_cons_of_mem _ hg)]; rfl
theorem ruleMore_self {a : List File} (ha : treeB a = true) : ruleMore a a = [] := by
  unfold ruleMore
  rw [if_pos (by rw [ha]; rfl)]
  exact moreA_none fun f hf => moreF_self (dist_tree ha) hf
theorem moreF_nil (b : List File) (f : File) : moreF [] b f = lostL b f.path f.text 0 := by
  unfold moreF
  rw [known_none rfl, List.filter_eq_self.2 fun x _ => ?_]
  rfl
theorem moreA_nil (b : List File) : ∀ fs : List File, moreA [] b fs = lostA b fs
  | [] => rfl
  | f :: r => by rw [moreA, lostA, moreF_nil, moreA_nil b r]
theorem ruleMore_nil {b : List File} (hb : treeB b = true) : ruleMore [] b = ruleLost b := by
  unfold ruleMore ruleLost
  rw [if_pos (by rw [treeB_nil, hb]; rfl), if_pos hb]
  exact moreA_nil b b
end Go.Vc
namespace Go.Proofs.YtegknjcifmenpaaGreatDoor
open Go.RowKit Go.Vc
open Go.Vc.Rep (rd)
open Go.Vc.Own (own)
end Go.Proofs.YtegknjcifmenpaaGreatDoor
