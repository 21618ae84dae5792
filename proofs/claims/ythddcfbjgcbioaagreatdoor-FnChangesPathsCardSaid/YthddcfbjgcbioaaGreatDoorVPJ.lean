/-
  Plain law: what is told as lost is lost, and no longer when the file is there. No program is in sight here. / Plain law: what is told as newly lost. No program is in sight here. / Walks: lists of what is lost, compared. / Plain law: a file that goes elsewhere takes all that refer to it along. No program is in sight here. / Plain functions: paths in order, what two sides made of a tree. No program is in sight here. / Plain functions: a join, path by path. No program is in sight here. / Plain functions: texts put in order, and each once, as the library does it. No program is in sight here.
-/
import Derived.Test.YthddcfbjgcbioaaGreatDoorVPB
import Derived.Test.YthddcfbjgcbioaaGreatDoorLost0
import Derived.Test.YthddcfbjgcbioaaGreatDoorVSM
import Derived.Test.YthddcfbjgcbioaaGreatDoorPlTM
import Derived.Test.YthddcfbjgcbioaaGreatDoorVRM
import Derived.Test.YthddcfbjgcbioaaGreatDoorVP2
import Derived.Test.YthddcfbjgcbioaaGreatDoorVP1
import Derived.Sort.OwnSorted
import Derived.Lib.SlicesCompact
set_option linter.unusedVariables false
namespace Go.Vc
theorem lostL_mem2 {t : List File} {p : ByteArray} : ∀ {xs : List ByteArray} {k : Nat} {x : Lost}, x ∈ lostL t p xs k → x.path = p ∧ ∃ i, ∃ h : i < xs.length, x.line = ((k + i : Nat) : Int) ∧ x.ref = refT xs[i] ∧ badB t xs[i] = true
  | [], _, _, h => by cases h
  | s :: r, k, x, h => by
    rw [lostL] at h
    rcases List.mem_append.1 h with h | h
    · split at h
      · rename_i hb
        obtain rfl := List.mem_singleton.1 h
        exact ⟨rfl, 0, by simp, rfl, rfl, hb⟩
      · cases h
    · obtain ⟨h1, i, h2, h3, h4, h5⟩ := lostL_mem2 h
      exact ⟨h1, i + 1, by simp; omega, by rw [h3]; congr 1; omega, by simpa using h4, by simpa using h5⟩
theorem lostA_in {t : List File} : ∀ {fs : List File} {x : Lost}, x ∈ lostA t fs → ∃ f, f ∈ fs ∧ x ∈ lostL t f.path f.text 0
  | [], _, h => by cases h
  | f :: r, x, h => by
    rw [lostA] at h
    rcases List.mem_append.1 h with h | h
    · exact ⟨f, List.mem_cons_self .., h⟩
    · obtain ⟨g, h1, h2⟩ := lostA_in h
      exact ⟨g, List.mem_cons_of_mem _ h1, h2⟩
theorem bad_is {t : List File} {s : ByteArray} (h : badB t s = true) : ¬ refT s = ⟨#[]⟩ ∧ getT t (refT s) = none := by
  unfold badB at h
  rw [Bool.and_eq_true] at h
  refine ⟨by simpa using h.1, ?_⟩
  have := h.2
  cases hg : getT t (refT s) with
  | none => rfl
  | some x => rw [hg] at this; cases this
theorem see_ref {s : ByteArray} (h : ¬ refT s = ⟨#[]⟩) : s = seeT ++ refT s := by
  have h1 := hit_see (path := refT s) (s := s) h
  rw [hit_path h, decide_eq_true rfl] at h1
  exact of_decide_eq_true h1.symm
theorem line_twelve {t : List ByteArray} (h : textB t = true) {s : ByteArray} (hs : s ∈ t) : s.size ≤ 12 := by
  unfold textB at h
  rw [Bool.and_eq_true] at h
  have := List.all_eq_true.1 h.2 s hs
  unfold lineB at this
  rw [Bool.and_eq_true] at this
  exact of_decide_eq_true this.1
/-- one that is told -/
theorem ruleLost_at {t : List File} (hT : treeB t = true) {L : List Lost} (hL : ruleLost t = L) {i : Nat} (hi : i < L.length) :
    ∃ tx, ∃ n : Nat, ∃ h : n < tx.length, treeGet t L[i].path = some tx ∧ L[i].line = (n : Int) ∧ tx[n] = seeT ++ L[i].ref ∧ treeGet t L[i].ref = none ∧ L[i].ref.size ≤ 12 ∧ (∃ f, f ∈ t ∧ f.path = L[i].path ∧ f.text = tx) := by
  have e : ruleLost t = lostA t t := if_pos hT
  rw [e] at hL
  have hm : L[i] ∈ lostA t t := by rw [hL]; exact List.getElem_mem hi
  obtain ⟨f, hf, hx⟩ := lostA_in hm
  obtain ⟨h1, n, hn, h2, h3, h4⟩ := lostL_mem2 hx
  obtain ⟨h5, h6⟩ := bad_is h4
  have h7 := line_twelve ((((tree_iff t).1 hT).2.1 f hf).2) (List.getElem_mem hn)
  refine ⟨f.text, n, hn, by rw [treeGet_ok hT, h1]; exact getT_of (dist_tree hT) hf, by rw [h2, Nat.zero_add], by rw [h3]; exact see_ref h5, by rw [treeGet_ok hT, h3]; exact h6, by rw [h3]; exact Nat.le_trans (refT_size _) h7, f, hf, h1.symm, rfl⟩
/-- with the file there none is told that refers to it -/
theorem ruleLost_set {t x : List File} {p : ByteArray} {tx : List ByteArray} (hT : treeB t = true) (hb : setB t ⟨p, tx⟩ = true) (hx : treeSet t ⟨p, tx⟩ = x) {L : List Lost} (hL : ruleLost x = L) {i : Nat} (hi : i < L.length) : ¬ L[i].ref = p := fun he => by
  obtain ⟨hTx, hg, _⟩ := treeSet_yes hT hb hx
  obtain ⟨_, _, _, _, _, _, h, _⟩ := ruleLost_at hTx hL hi
  rw [he, hg] at h
  cases h
end Go.Vc
namespace Go.Vc
theorem moreA_sub {a b : List File} {x : Lost} : ∀ {fs : List File}, x ∈ moreA a b fs → x ∈ lostA b fs
  | [], h => by cases h
  | f :: r, h => by
    rw [moreA] at h
    rw [lostA]
    rcases List.mem_append.1 h with h | h
    · exact List.mem_append.2 (.inl (List.mem_filter.1 h).1)
    · exact List.mem_append.2 (.inr (moreA_sub h))
theorem ruleMore_sub {a b : List File} (hb : treeB b = true) {x : Lost} (h : x ∈ ruleMore a b) : x ∈ ruleLost b := by
  unfold ruleMore at h
  unfold ruleLost
  rw [if_pos hb]
  split at h
  · exact moreA_sub h
  · cases h
theorem mt_selfget (o : List ByteArray) : ∀ (n i : Nat), i + n < o.length → (mt o (o.drop i) i).getD n 0 = ((i + n : Nat) : Int)
  | 0, i, h => by
    rw [Nat.add_zero] at h ⊢
    rw [mt_next (a := o) (b := o) h h rfl]
    rfl
  | n + 1, i, h => by
    rw [mt_next (a := o) (b := o) (i := i) (j := i) (by omega) (by omega) rfl, List.getD_cons_succ, mt_selfget o n (i + 1) (by omega)]
    congr 1
    omega
theorem match_selfget (o : List ByteArray) {n : Nat} (h : n < o.length) : (matchT o o).getD n 0 = (n : Int) := by
  have := mt_selfget o n 0 (by omega)
  rw [List.drop_zero, Nat.zero_add] at this
  exact this
theorem moreF_self {a : List File} (ha : DistF a) {f : File} (hf : f ∈ a) : moreF a a f = [] := by
  unfold moreF
  rw [known_some (getT_of ha hf), List.filter_eq_nil_iff]
  intro x hx
  obtain ⟨_, i, hi, h3, _, _⟩ := lostL_mem2 hx
  rw [Nat.zero_add] at h3
  have : lineIn (knownL f.text f.text (lostL a f.path f.text 0)) x.line = true := by
    rw [lineIn_any, knownL, List.any_map, List.any_eq_true]
    refine ⟨x, hx, ?_⟩
    show decide ((matchT f.text f.text).getD x.line.toNat 0 = x.line) = true
    rw [h3, Int.toNat_natCast, match_selfget f.text hi]
    exact decide_eq_true rfl
  rw [this]
  simp
theorem moreA_none {a b : List File} : ∀ {fs : List File}, (∀ f, f ∈ fs → moreF a b f = []) → moreA a b fs = []
  | [], _ => rfl
  | f :: r, h => by rw [moreA, h f (List.mem_cons_self ..), moreA_none fun g hg => h g (List.mem_cons_of_mem _ hg)]; rfl
theorem ruleMore_self {a : List File} (ha : treeB a = true) : ruleMore a a = [] := by
  unfold ruleMore
  rw [if_pos (by rw [ha]; rfl)]
  exact moreA_none fun f hf => moreF_self (dist_tree ha) hf
theorem moreF_nil (b : List File) (f : File) : moreF [] b f = lostL b f.path f.text 0 := by
  unfold moreF
  rw [known_none rfl, List.filter_eq_self.2 fun x _ => ?_]
  rfl
theorem moreA_nil (b : List File) : ∀ fs : List File, moreA [] b fs = lostA b fs
  | [] => rfl
  | f :: r => by rw [moreA, lostA, moreF_nil, moreA_nil b r]
theorem ruleMore_nil {b : List File} (hb : treeB b = true) : ruleMore [] b = ruleLost b := by
  unfold ruleMore ruleLost
  rw [if_pos (by rw [treeB_nil, hb]; rfl), if_pos hb]
  exact moreA_nil b b
end Go.Vc
namespace Go.Proofs.YthddcfbjgcbioaaGreatDoor
open Go.RowKit Go.Vc
open Go.Vc.Rep (rd)
open Go.Vc.Own (own)
end Go.Proofs.YthddcfbjgcbioaaGreatDoor
namespace Go.Vc
/-- lines of this kind -/
def linesN (P : ByteArray → Bool) : List File → Nat
  | [] => 0
  | f :: r => (f.text.filter P).length + linesN P r
theorem linesN_app (P : ByteArray → Bool) : ∀ (a b : List File), linesN P (a ++ b) = linesN P a + linesN P b
  | [], b => by simp [linesN]
  | f :: a, b => by
    show (f.text.filter P).length + linesN P (a ++ b) = (f.text.filter P).length + linesN P a + linesN P b
    rw [linesN_app P a b]; omega
theorem linesN_cong {P Q : ByteArray → Bool} : ∀ {a : List File}, (∀ f, f ∈ a → ∀ s, s ∈ f.text → P s = Q s) → linesN P a = linesN Q a
  | [], _ => rfl
  | f :: a, h => by
    have e : f.text.filter P = f.text.filter Q := List.filter_congr fun s hs => h f (List.mem_cons_self ..) s hs
    show (f.text.filter P).length + linesN P a = (f.text.filter Q).length + linesN Q a
    rw [e, linesN_cong fun g hg => h g (List.mem_cons_of_mem _ hg)]
/-- the set in a tree at a path of its own adds one file -/
theorem linesN_set (P : ByteArray → Bool) {b : List File} (hb : AscF b) {f : File} (h : (setT b f).length = b.length + 1) : linesN P (setT b f) = linesN P b + (f.text.filter P).length := by
  obtain ⟨A, M, B, h1, h2, h3, h4, h5⟩ := tset_split f hb
  rcases h5 with rfl | ⟨m, rfl, hm⟩
  · rw [h2, h1, List.nil_append, linesN_app, linesN_app]
    show linesN P A + ((f.text.filter P).length + linesN P B) = _
    omega
  · rw [h2, h1] at h
    simp at h
theorem linesN_mov (P : ByteArray → Bool) {q d : ByteArray} : ∀ {r b : List File}, AscF b → (movG q d b r).length = b.length + (r.filter fun f => isAtB q f.path).length → linesN P (movG q d b r) = linesN P b + linesN P (r.filter fun f => isAtB q f.path)
  | [], b, _, _ => by show linesN P b = linesN P b + 0; omega
  | f :: r, b, hb, hl => by
    cases hp : isAtB q f.path with
    | false =>
      have e : movG q d b (f :: r) = movG q d b r := by rw [movG, if_neg (by rw [hp]; simp)]
      rw [e] at hl ⊢
      rw [List.filter_cons_of_neg (by rw [hp]; simp)] at hl ⊢
      exact linesN_mov P hb hl
    | true =>
      have e : movG q d b (f :: r) = movG q d (setT b (mvF q d f)) r := by rw [movG, if_pos hp]
      rw [e] at hl ⊢
      rw [List.filter_cons_of_pos (by exact hp)] at hl ⊢
      rw [List.length_cons] at hl
      have h2 := movG_len q d r (setT b (mvF q d f))
      have h3 := setT_len b (mvF q d f)
      rw [linesN_mov P (asc_set hb _) (by omega), linesN_set P hb (by omega)]
      show linesN P b + (f.text.filter P).length + _ = linesN P b + ((f.text.filter P).length + _)
      omega
theorem linesN_part (P : ByteArray → Bool) (q : ByteArray) : ∀ (t : List File), linesN P (dropT t q) + linesN P (t.filter fun f => isAtB q f.path) = linesN P t
  | [] => rfl
  | f :: r => by
    have ih := linesN_part P q r
    unfold dropT at ih ⊢
    cases hp : isAtB q f.path with
    | true =>
      rw [List.filter_cons_of_neg (by rw [hp]; simp), List.filter_cons_of_pos (by exact hp)]
      show _ + ((f.text.filter P).length + _) = (f.text.filter P).length + _
      omega
    | false =>
      rw [List.filter_cons_of_pos (by rw [hp]; rfl), List.filter_cons_of_neg (by rw [hp]; simp)]
      show (f.text.filter P).length + _ + _ = (f.text.filter P).length + _
      omega
theorem linesN_map (P : ByteArray → Bool) (path dst : ByteArray) : ∀ (x : List File), linesN P (treeM path dst x) = linesN (fun s => P (lineM path dst s)) x
  | [] => rfl
  | f :: x => by
    show ((f.text.map (lineM path dst)).filter P).length + linesN P (treeM path dst x) = (f.text.filter _).length + linesN _ x
    rw [linesN_map P path dst x, List.filter_map, List.length_map]
    rfl
theorem lostL_n (t : List File) (p : ByteArray) (R : ByteArray → Bool) : ∀ (xs : List ByteArray) (k : Nat), ((lostL t p xs k).filter fun l => R l.ref).length = (xs.filter fun s => badB t s && R (refT s)).length
  | [], _ => rfl
  | s :: r, k => by
    rw [lostL, List.filter_append, List.length_append, lostL_n t p R r (k + 1)]
    cases hb : badB t s with
    | false =>
      rw [if_neg (by simp), List.filter_cons_of_neg (by rw [hb]; simp)]
      simp
    | true =>
      rw [if_pos rfl]
      cases hr : R (refT s) with
      | false => rw [List.filter_cons_of_neg (by show ¬ R (refT s) = true; rw [hr]; simp), List.filter_cons_of_neg (by rw [hb, hr]; simp)]; simp
      | true => rw [List.filter_cons_of_pos (by exact hr), List.filter_cons_of_pos (by rw [hb, hr]; rfl)]; simp; omega
theorem lostA_n (t : List File) (R : ByteArray → Bool) : ∀ (fs : List File), ((lostA t fs).filter fun l => R l.ref).length = linesN (fun s => badB t s && R (refT s)) fs
  | [] => rfl
  | f :: r => by
    rw [lostA, List.filter_append, List.length_append, lostL_n, lostA_n t R r]
    rfl
theorem getT_none {t : List File} {p : ByteArray} (h : ∀ f, f ∈ t → ¬ f.path = p) : getT t p = none := by
  cases hg : getT t p with
  | none => rfl
  | some x =>
    obtain ⟨f, hf, hp, _⟩ := getT_mem hg
    exact absurd hp (h f hf)
theorem getT_some {t : List File} {f : File} (hf : f ∈ t) : (getT t f.path).isNone = false := by
  induction t with
  | nil => cases hf
  | cons g r ih =>
    rw [getT]
    split
    · rfl
    · rename_i hne
      rcases List.mem_cons.1 hf with rfl | hf
      · exact absurd rfl hne
      · exact ih hf
theorem linesN_sum (P Q : ByteArray → Bool) : ∀ (x : List File), linesN (fun s => P s && !Q s) x + linesN (fun s => P s && Q s) x = linesN P x
  | [] => rfl
  | f :: x => by
    have ih := linesN_sum P Q x
    have e : ∀ xs : List ByteArray, (xs.filter fun s => P s && !Q s).length + (xs.filter fun s => P s && Q s).length = (xs.filter P).length := fun xs => by
      induction xs with
      | nil => rfl
      | cons s r ih =>
        simp only [List.filter_cons]
        cases P s <;> cases Q s <;> simp <;> omega
    have := e f.text
    show (f.text.filter _).length + _ + ((f.text.filter _).length + _) = (f.text.filter P).length + _
    omega
theorem path_ne' {t : List File} {p : ByteArray} (hT : treeB t = true) {x : List ByteArray} (h : getT t p = some x) : ¬ p = ⟨#[]⟩ := fun e => by
  obtain ⟨f, hf, hp⟩ : ∃ f, f ∈ t ∧ f.path = p := by
    clear hT
    induction t with
    | nil => cases h
    | cons g r ih =>
      rw [getT] at h
      split at h
      · rename_i hg
        exact ⟨g, List.mem_cons_self .., hg⟩
      · obtain ⟨f, h1, h2⟩ := ih h
        exact ⟨f, List.mem_cons_of_mem _ h1, h2⟩
  have h1 := (((tree_iff t).1 hT).2.1 f hf).1
  rw [hp, e] at h1
  exact absurd h1 (by decide)
theorem rm_law {t x : List File} {path dst : ByteArray} (hT : treeB t = true) (hb : ruleMoveB t path dst = true) (hx : ruleMove t path dst = x) :
    treeB x = true ∧ x.length = t.length ∧ (ruleLost x).length + ((ruleLost t).filter fun l => decide (l.ref = dst)).length = (ruleLost t).length ∧ (¬ path = dst → ruleUses x path = []) ∧ (∀ f, f ∈ x → ∃ g, g ∈ t ∧ f.path.size ≤ dst.size + g.path.size) := by
  have hb0 := hb
  unfold ruleMoveB at hb0
  simp only [Bool.and_eq_true] at hb0
  obtain ⟨_, hsome, hmv, hTx⟩ := hb0
  have ex : x = treeM path dst (movedT t path dst) := by rw [← hx, ruleMove_ok hT, if_pos hb]
  subst ex
  obtain ⟨px, hpx⟩ := Option.isSome_iff_exists.1 hsome
  have hpne := path_ne' hT hpx
  obtain ⟨f0, hf0, hf0p, _⟩ := getT_mem hpx
  have hmv0 := hmv
  unfold moveB at hmv0
  simp only [Bool.and_eq_true, decide_eq_true_eq] at hmv0
  obtain ⟨_, hlt, hpd, hTy, hlen⟩ := hmv0
  have hdne : ¬ dst = ⟨#[]⟩ := fun e => by rw [e] at hpd; exact absurd hpd (by decide)
  have hD := drop_asc (asc_tree hT) path
  have hl0 : (movG path dst (dropT t path) t).length = (dropT t path).length + (t.filter fun f => isAtB path f.path).length := by
    show (movedT t path dst).length = _
    rw [hlen, drop_parts]
  have hmem := movG_free (q := path) (d := dst) hD hl0
  have hat : ∀ f, f ∈ t → isAtB path f.path = true → f.path = path := fun f hf hp => by
    unfold isAtB at hp
    rw [Bool.or_eq_true] at hp
    rcases hp with hp | hp
    · exact of_decide_eq_true hp
    · exfalso
      have hpw := ((tree_iff t).1 hT).2.2
      rw [← hf0p] at hp
      have hless := inB_less hp
      obtain ⟨i, hi, hie⟩ := List.getElem_of_mem hf0
      obtain ⟨j, hj, hje⟩ := List.getElem_of_mem hf
      rcases Nat.lt_trichotomy i j with h | h | h
      · have := (List.pairwise_iff_getElem.1 hpw i j hi hj h).2
        rw [hie, hje, hp] at this
        cases this
      · subst h
        rw [hie] at hje
        rw [hje, lessB_irr] at hless
        cases hless
      · have := (List.pairwise_iff_getElem.1 hpw j i hj hi h).1
        rw [hie, hje] at this
        have h2 := lessB_asymm hless
        rw [this] at h2
        cases h2
  have hself : isAtB path path = true := by unfold isAtB; rw [decide_eq_true rfl]; rfl
  have hmd : mvP path dst path = dst := by
    refine ba_ext ?_
    rw [mvP_list (q := path) (d := dst) (p := path) (r := []) (by simp)]
    simp
  -- the paths behind it
  have hgone : ∀ q, (getT (treeM path dst (movedT t path dst)) q).isNone = (decide (¬ q = dst) && (decide (q = path) || (getT t q).isNone)) := fun q => by
    by_cases hqd : q = dst
    · have hm : fileM path dst (mvF path dst f0) ∈ treeM path dst (movedT t path dst) := List.mem_map.2 ⟨_, (hmem _).2 (.inr ⟨f0, hf0, by rw [hf0p]; exact hself, rfl⟩), rfl⟩
      have h1 := getT_some hm
      have h2 : (fileM path dst (mvF path dst f0)).path = dst := by show mvP path dst f0.path = dst; rw [hf0p, hmd]
      rw [h2] at h1
      rw [hqd, h1]
      simp
    · rw [decide_eq_true hqd, Bool.true_and]
      by_cases hqp : q = path
      · rw [decide_eq_true hqp, Bool.true_or]
        rw [getT_none (t := treeM path dst (movedT t path dst)) (p := q) fun f hf => ?_]
        · rfl
        · obtain ⟨g, hg, rfl⟩ := List.mem_map.1 hf
          show ¬ g.path = q
          rcases (hmem g).1 hg with h | ⟨h, h1, h2, rfl⟩
          · intro e
            have h3 := (List.mem_filter.1 h).2
            rw [e, hqp, hself] at h3
            cases h3
          · show ¬ mvP path dst h.path = q
            rw [hat h h1 h2, hmd]
            exact fun e => hqd e.symm
      · rw [decide_eq_false hqp, Bool.false_or]
        cases hg : getT t q with
        | none =>
          rw [getT_none (t := treeM path dst (movedT t path dst)) (p := q) fun f hf => ?_]
          obtain ⟨g, hgm, rfl⟩ := List.mem_map.1 hf
          show ¬ g.path = q
          rcases (hmem g).1 hgm with h | ⟨h, h1, h2, rfl⟩
          · intro e
            have h3 := getT_some (List.mem_filter.1 h).1
            rw [e, hg] at h3
            cases h3
          · show ¬ mvP path dst h.path = q
            rw [hat h h1 h2, hmd]
            exact fun e => hqd e.symm
        | some tx =>
          obtain ⟨f, hf, hfp, _⟩ := getT_mem hg
          have hm : f ∈ movedT t path dst := (hmem f).2 (.inl (List.mem_filter.2 ⟨hf, by
            cases h : isAtB path f.path with
            | false => rfl
            | true => exact absurd ((hat f hf h).symm.trans hfp).symm hqp⟩))
          have h1 := getT_some (t := treeM path dst (movedT t path dst)) (List.mem_map.2 ⟨f, hm, rfl⟩ : fileM path dst f ∈ _)
          have h2 : (fileM path dst f).path = q := hfp
          rw [h2] at h1
          rw [h1]
          rfl
  have hsee : refT (seeT ++ dst) = dst := by
    have h := hit_see (path := dst) (s := seeT ++ dst) hdne
    rw [hit_path hdne] at h
    exact of_decide_eq_true (h.trans (decide_eq_true rfl))
  have hline : ∀ s, badB (treeM path dst (movedT t path dst)) (lineM path dst s) = (badB t s && !decide (refT s = dst)) := fun s => by
    by_cases hs : refT s = path
    · have hh : hitB path s = true := by rw [hit_path hpne]; exact decide_eq_true hs
      rw [lineM_yes hh]
      have e1 : badB (treeM path dst (movedT t path dst)) (seeT ++ dst) = false := by
        unfold badB
        rw [hsee, hgone dst]
        simp
      have e2 : badB t s = false := by
        unfold badB
        rw [hs, hpx]
        simp
      rw [e1, e2]
      rfl
    · have hh : hitB path s = false := by rw [hit_path hpne]; exact decide_eq_false hs
      rw [lineM_no hh]
      unfold badB
      rw [hgone, decide_eq_false hs, Bool.false_or]
      by_cases h : refT s = dst
      · rw [decide_eq_true h, h]; simp
      · rw [decide_eq_false h, decide_eq_true (show ¬ refT s = dst from h)]; simp
  have hall : ∀ (u fs : List File), (lostA u fs).length = linesN (badB u) fs := fun u fs => by
    have := lostA_n u (fun _ => true) fs
    rw [show ((lostA u fs).filter fun l => true) = lostA u fs from List.filter_eq_self.2 fun _ _ => rfl] at this
    rw [this]
    exact linesN_cong fun f _ s _ => by simp
  have hlinesT : ∀ P, linesN P (movedT t path dst) = linesN P t := fun P => by
    show linesN P (movG path dst (dropT t path) t) = _
    rw [linesN_mov P hD hl0, linesN_part]
  refine ⟨hTx, by unfold treeM; rw [List.length_map]; exact hlen, ?_, ?_, ?_⟩
  · unfold ruleLost
    rw [if_pos hTx, if_pos hT, hall, hall, linesN_map]
    rw [lostA_n t (fun r => decide (r = dst)) t]
    rw [linesN_cong (P := fun s => badB (treeM path dst (movedT t path dst)) (lineM path dst s)) (Q := fun s => badB t s && !decide (refT s = dst)) fun f _ s _ => hline s]
    rw [hlinesT]
    exact linesN_sum (badB t) (fun s => decide (refT s = dst)) t
  · intro hpd2
    unfold ruleUses usesT
    rw [if_pos hTx, List.map_eq_nil_iff, List.filter_eq_nil_iff]
    intro f hf
    obtain ⟨g, hg, rfl⟩ := List.mem_map.1 hf
    unfold usesB
    rw [Bool.not_eq_true, List.any_eq_false]
    intro s hs
    obtain ⟨s0, _, rfl⟩ := List.mem_map.1 hs
    rw [hit_path hpne]
    by_cases h : hitB path s0 = true
    · rw [lineM_yes h, hsee, decide_eq_false (fun e => hpd2 e.symm)]; simp
    · have h' : hitB path s0 = false := by simpa using h
      rw [lineM_no h']
      rw [hit_path hpne] at h
      exact h
  · intro f hf
    obtain ⟨g, hg, rfl⟩ := List.mem_map.1 hf
    show ∃ g', g' ∈ t ∧ g.path.size ≤ _
    rcases (hmem g).1 hg with h | ⟨h, h1, h2, rfl⟩
    · exact ⟨g, (List.mem_filter.1 h).1, by omega⟩
    · refine ⟨h, h1, ?_⟩
      show (mvP path dst h.path).size ≤ _
      rw [mvP_size (isAt_size h2)]
      omega
end Go.Vc
namespace Go.Vc
/-- texts in order, each once -/
def AscP (ps : List ByteArray) : Prop := ps.Pairwise fun a b => lessB a b = true
def lowP (s : ByteArray) : List ByteArray → Nat
  | [] => 0
  | p :: ps => if lessB p s = true then lowP s ps + 1 else 0
def putP (ps : List ByteArray) (s : ByteArray) : List ByteArray := if ps[lowP s ps]? = some s then ps else ps.take (lowP s ps) ++ [s] ++ ps.drop (lowP s ps)
theorem low_next {ps : List ByteArray} {s : ByteArray} {K k : Nat} (H : K = k + lowP s (ps.drop k)) (hk : k < ps.length) (h : lessB ps[k] s = true) : K = (k + 1) + lowP s (ps.drop (k + 1)) := by
  rw [H, drop_cons ps k hk, lowP, if_pos h]; omega
theorem low_stop {ps : List ByteArray} {s : ByteArray} {K k : Nat} (H : K = k + lowP s (ps.drop k)) (hk : k < ps.length) (h : lessB ps[k] s = false) : K = k := by
  rw [H, drop_cons ps k hk, lowP, if_neg (by rw [h]; simp)]; rfl
theorem low_end {ps : List ByteArray} {s : ByteArray} {K k : Nat} (H : K = k + lowP s (ps.drop k)) (hk : ¬ k < ps.length) : K = k := by
  rw [H, drop_nil ps k hk, lowP]; rfl
theorem lowP_le (s : ByteArray) : ∀ (ps : List ByteArray), lowP s ps ≤ ps.length
  | [] => Nat.le_refl _
  | p :: ps => by
    rw [lowP]
    have := lowP_le s ps
    split
    · simp; omega
    · exact Nat.zero_le _
theorem lowP_take (s : ByteArray) : ∀ (ps : List ByteArray) (q : ByteArray), q ∈ ps.take (lowP s ps) → lessB q s = true
  | [], q, h => by simp at h
  | p :: ps, q, h => by
    rw [lowP] at h
    split at h
    · rename_i hp
      rw [List.take_succ_cons] at h
      rcases List.mem_cons.1 h with rfl | h
      · exact hp
      · exact lowP_take s ps q h
    · simp at h
theorem lowP_at (s : ByteArray) : ∀ (ps : List ByteArray) (h : lowP s ps < ps.length), lessB ps[lowP s ps] s = false
  | [], h => by simp at h
  | p :: ps, h => by
    by_cases hp : lessB p s = true
    · have e : lowP s (p :: ps) = lowP s ps + 1 := by rw [lowP, if_pos hp]
      have h2 : lowP s ps < ps.length := by rw [e] at h; simpa using h
      have := lowP_at s ps h2
      simp only [e, List.getElem_cons_succ]
      exact this
    · have e : lowP s (p :: ps) = 0 := by rw [lowP, if_neg hp]
      simp only [e, List.getElem_cons_zero]
      simpa using hp
theorem mem_putP {ps : List ByteArray} {s q : ByteArray} : q ∈ putP ps s ↔ q = s ∨ q ∈ ps := by
  unfold putP
  split
  · rename_i h
    have : s ∈ ps := List.mem_of_getElem? h
    constructor
    · exact .inr
    · rintro (rfl | h)
      · exact this
      · exact h
  · rw [List.mem_append, List.mem_append, List.mem_singleton]
    have e : q ∈ ps ↔ q ∈ ps.take (lowP s ps) ∨ q ∈ ps.drop (lowP s ps) := by rw [← List.mem_append, List.take_append_drop]
    rw [e]
    constructor
    · rintro ((h | h) | h)
      · exact .inr (.inl h)
      · exact .inl h
      · exact .inr (.inr h)
    · rintro (h | h | h)
      · exact .inl (.inr h)
      · exact .inl (.inl h)
      · exact .inr h
theorem putP_len (ps : List ByteArray) (s : ByteArray) : (putP ps s).length ≤ ps.length + 1 := by
  unfold putP
  split
  · omega
  · have := lowP_le s ps
    simp; omega
theorem asc_putP {ps : List ByteArray} {s : ByteArray} (h : AscP ps) : AscP (putP ps s) := by
  unfold putP
  split
  · exact h
  · rename_i hn
    have h2 : AscP (ps.take (lowP s ps) ++ ps.drop (lowP s ps)) := by rw [List.take_append_drop]; exact h
    obtain ⟨ht, hd, htd⟩ := List.pairwise_append.1 h2
    have hb : ∀ q, q ∈ ps.drop (lowP s ps) → lessB s q = true := fun q hq => by
      obtain ⟨i, hi, rfl⟩ := List.getElem_of_mem hq
      rw [List.length_drop] at hi
      have hl : lowP s ps < ps.length := by omega
      have h0 : lessB s ps[lowP s ps] = true := by
        rcases lessB_tri (lowP_at s ps hl) with h | h
        · exact h
        · exact absurd (by rw [List.getElem?_eq_getElem hl, h]) hn
      rw [List.getElem_drop]
      by_cases hi0 : i = 0
      · subst hi0; exact h0
      · exact lessB_trans h0 (List.pairwise_iff_getElem.1 h _ _ hl (by omega) (by omega))
    refine List.pairwise_append.2 ⟨List.pairwise_append.2 ⟨ht, List.pairwise_singleton _ _, fun a ha b hb' => ?_⟩, hd, fun a ha b hb' => ?_⟩
    · rw [List.mem_singleton] at hb'
      rw [hb']; exact lowP_take s ps a ha
    · rcases List.mem_append.1 ha with ha | ha
      · exact htd a ha b hb'
      · rw [List.mem_singleton] at ha
        rw [ha]; exact hb b hb'
def foldP (ps : List ByteArray) (fs : List File) : List ByteArray := fs.foldl (fun ps f => putP ps f.path) ps
theorem foldP_next {P ps : List ByteArray} {t : List File} {k : Nat} (H : P = foldP ps (t.drop k)) (hk : k < t.length) : P = foldP (putP ps t[k].path) (t.drop (k + 1)) := by
  rw [H, drop_cons t k hk, foldP, List.foldl_cons]; rfl
theorem foldP_end {P ps : List ByteArray} {t : List File} {k : Nat} (H : P = foldP ps (t.drop k)) (hk : ¬ k < t.length) : P = ps := by
  rw [H, drop_nil t k hk]; rfl
theorem foldP_len : ∀ (fs : List File) (ps : List ByteArray), (foldP ps fs).length ≤ ps.length + fs.length
  | [], ps => Nat.le_refl _
  | f :: fs, ps => by
    have h1 := foldP_len fs (putP ps f.path)
    have h2 := putP_len ps f.path
    show (foldP (putP ps f.path) fs).length ≤ _
    simp; omega
theorem mem_foldP {q : ByteArray} : ∀ {fs : List File} {ps : List ByteArray}, q ∈ foldP ps fs ↔ q ∈ ps ∨ ∃ f, f ∈ fs ∧ f.path = q
  | [], ps => by simp [foldP]
  | f :: fs, ps => by
    have : foldP ps (f :: fs) = foldP (putP ps f.path) fs := rfl
    rw [this, mem_foldP, mem_putP]
    constructor
    · rintro ((h | h) | ⟨g, h1, h2⟩)
      · exact .inr ⟨f, List.mem_cons_self .., h.symm⟩
      · exact .inl h
      · exact .inr ⟨g, List.mem_cons_of_mem _ h1, h2⟩
    · rintro (h | ⟨g, h1, h2⟩)
      · exact .inl (.inr h)
      · rcases List.mem_cons.1 h1 with rfl | h1
        · exact .inl (.inl h2.symm)
        · exact .inr ⟨g, h1, h2⟩
theorem asc_foldP : ∀ {fs : List File} {ps : List ByteArray}, AscP ps → AscP (foldP ps fs)
  | [], _, h => h
  | f :: fs, ps, h => asc_foldP (fs := fs) (asc_putP h)
/-- all paths of three trees, in order -/
def allP (o a b : List File) : List ByteArray := foldP (foldP (foldP [] o) a) b
theorem allP_len (o a b : List File) : (allP o a b).length ≤ o.length + a.length + b.length := by
  have h1 := foldP_len o []
  have h2 := foldP_len a (foldP [] o)
  have h3 := foldP_len b (foldP (foldP [] o) a)
  unfold allP
  simp at h1
  omega
theorem asc_allP (o a b : List File) : AscP (allP o a b) := asc_foldP (asc_foldP (asc_foldP List.Pairwise.nil))
theorem mem_allP {o a b : List File} {q : ByteArray} : q ∈ allP o a b ↔ (∃ f, f ∈ o ∧ f.path = q) ∨ (∃ f, f ∈ a ∧ f.path = q) ∨ ∃ f, f ∈ b ∧ f.path = q := by
  unfold allP
  rw [mem_foldP, mem_foldP, mem_foldP]
  simp [or_assoc]
/-- in order, and of the same texts -/
theorem ascP_ext : ∀ {a b : List ByteArray}, AscP a → AscP b → (∀ g, g ∈ a ↔ g ∈ b) → a = b
  | [], [], _, _, _ => rfl
  | [], g :: b, _, _, h => absurd ((h g).2 (List.mem_cons_self ..)) (by simp)
  | g :: a, [], _, _, h => absurd ((h g).1 (List.mem_cons_self ..)) (by simp)
  | f :: a, g :: b, ha, hb, h => by
    obtain ⟨a1, a2⟩ := List.pairwise_cons.1 ha
    obtain ⟨b1, b2⟩ := List.pairwise_cons.1 hb
    have hfg : f = g := by
      rcases List.mem_cons.1 ((h f).1 (List.mem_cons_self ..)) with e | e
      · exact e
      · rcases List.mem_cons.1 ((h g).2 (List.mem_cons_self ..)) with e' | e'
        · exact e'.symm
        · have h1 := b1 f e
          have h2 := a1 g e'
          have h3 := lessB_asymm h1
          rw [h2] at h3
          cases h3
    subst hfg
    have hir : ∀ {l : List ByteArray}, (∀ x, x ∈ l → lessB f x = true) → f ∉ l := fun hl hm => by
      have := hl f hm
      rw [lessB_irr] at this
      cases this
    have : a = b := ascP_ext a2 b2 fun x => by
      constructor
      · intro hx
        rcases List.mem_cons.1 ((h x).1 (List.mem_cons_of_mem _ hx)) with rfl | hx'
        · exact absurd hx (hir a1)
        · exact hx'
      · intro hx
        rcases List.mem_cons.1 ((h x).2 (List.mem_cons_of_mem _ hx)) with rfl | hx'
        · exact absurd hx (hir b1)
        · exact hx'
    rw [this]
theorem allP_swap (o a b : List File) : allP o b a = allP o a b := ascP_ext (asc_allP _ _ _) (asc_allP _ _ _) fun q => by
  rw [mem_allP, mem_allP]
  constructor
  · rintro (h | h | h)
    · exact .inl h
    · exact .inr (.inr h)
    · exact .inr (.inl h)
  · rintro (h | h | h)
    · exact .inl h
    · exact .inr (.inr h)
    · exact .inr (.inl h)

/-- what becomes of a path, and how it clashes -/
def joinOne (o a b : Option (List ByteArray)) : Option (List ByteArray) × Nat :=
  if a = o ∨ a = b then (b, 0) else if b = o then (a, 0) else if a = none ∨ b = none then (o, 1) else if o = none then (none, 2)
  else if (mText (o.getD []) (a.getD []) (b.getD [])).2 = true then (some (mText (o.getD []) (a.getD []) (b.getD [])).1, 0) else (o, 3)
def joinAt (o a b : List File) (p : ByteArray) : Option (List ByteArray) × Nat := joinOne (getT o p) (getT a p) (getT b p)
def joinF (o a b : List File) (ps : List ByteArray) : List File := ps.filterMap fun p => (joinAt o a b p).1.map fun x => ⟨p, x⟩
def joinC (o a b : List File) (ps : List ByteArray) : List Clash := ps.filterMap fun p => if (joinAt o a b p).2 = 0 then none else some ⟨p, ((joinAt o a b p).2 : Int)⟩
def threeT (o a b : List File) : Bool := treeB o && treeB a && treeB b
theorem threeT_iff {o a b : List File} : threeT o a b = true ↔ treeB o = true ∧ treeB a = true ∧ treeB b = true := by simp [threeT, and_assoc]
def joinOf (o a b : List File) : List File × List Clash :=
  if threeT o a b = true then
    if joinC o a b (allP o a b) = [] ∧ treeB (joinF o a b (allP o a b)) = false then (o, [⟨⟨#[]⟩, 4⟩]) else (joinF o a b (allP o a b), joinC o a b (allP o a b))
  else ([], [])
def joinTree (o a b : List File) : List File × Bool :=
  if threeT o a b = true ∧ (joinOf o a b).2 = [] then ((joinOf o a b).1, true) else ([], false)
def freeAt (o a b : List File) (p : ByteArray) : Bool := decide (getT a p = getT o p) || decide (getT b p = getT o p)
def joinFree (o a b : List File) : Bool := threeT o a b && (allP o a b).all (freeAt o a b)

/-! laws -/
theorem threeT_swap (o a b : List File) : threeT o b a = threeT o a b := by simp only [threeT, Bool.and_assoc]; rw [Bool.and_comm (treeB b)]
theorem free_swap {o a b : List File} (h : joinFree o a b = true) : joinFree o b a = true := by
  unfold joinFree at h ⊢
  rw [threeT_swap, allP_swap]
  rw [Bool.and_eq_true] at h ⊢
  refine ⟨h.1, List.all_eq_true.2 fun p hp => ?_⟩
  have := List.all_eq_true.1 h.2 p hp
  unfold freeAt at this ⊢
  rw [Bool.or_comm]; exact this
theorem joinOne_free {o a b : Option (List ByteArray)} (h : a = o ∨ b = o) : (joinOne o a b).2 = 0 := by
  unfold joinOne
  split
  · rfl
  · rename_i h1
    rcases h with h | h
    · exact absurd (.inl h) h1
    · rw [if_pos h]
theorem free_law {o a b : List File} (h : joinFree o a b = true) : (joinOf o a b).2 = [] ∨ (joinOf o a b).2 = [⟨⟨#[]⟩, 4⟩] := by
  unfold joinFree at h
  rw [Bool.and_eq_true] at h
  have hc : joinC o a b (allP o a b) = [] := by
    unfold joinC
    rw [List.filterMap_eq_nil_iff]
    intro p hp
    have := List.all_eq_true.1 h.2 p hp
    unfold freeAt at this
    rw [if_pos]
    exact joinOne_free (by simpa using this)
  unfold joinOf
  rw [if_pos h.1]
  split
  · exact .inr rfl
  · exact .inl hc
/-- a tree's files by the paths of more -/
theorem files_by {t : List File} (ht : AscF t) {ps : List ByteArray} (hp : AscP ps) (hi : ∀ f, f ∈ t → f.path ∈ ps) : ps.filterMap (fun p => (getT t p).map fun x => (⟨p, x⟩ : File)) = t := by
  have hd : DistF t := ht.imp fun {f g} h e => by rw [e, lessB_irr] at h; cases h
  refine asc_ext ?_ ht fun g => ?_
  · refine List.Pairwise.filterMap _ ?_ hp
    intro p q hpq f hf g hg
    simp only [Option.map_eq_some_iff] at hf hg
    obtain ⟨x, _, rfl⟩ := hf
    obtain ⟨y, _, rfl⟩ := hg
    exact hpq
  · rw [List.mem_filterMap]
    constructor
    · rintro ⟨p, _, h⟩
      rw [Option.map_eq_some_iff] at h
      obtain ⟨x, hx, rfl⟩ := h
      obtain ⟨f, hf, h1, h2⟩ := getT_mem hx
      rw [← h1, ← h2]
      exact hf
    · intro hg
      exact ⟨g.path, hi g hg, by rw [getT_of hd hg]; rfl⟩
theorem joinOne_left (o b : Option (List ByteArray)) : joinOne o o b = (b, 0) := by unfold joinOne; rw [if_pos (.inl rfl)]
theorem joinOne_same (o a : Option (List ByteArray)) : joinOne o a a = (a, 0) := by unfold joinOne; rw [if_pos (.inr rfl)]
theorem joinOne_right (o a : Option (List ByteArray)) : joinOne o a o = (a, 0) := by
  unfold joinOne
  split
  · rename_i h
    rcases h with h | h <;> rw [h]
  · rw [if_pos rfl]
theorem tree_made {o a b c : List File} (ho : threeT o a b = true) (hc : treeB c = true) (hi : ∀ f, f ∈ c → f.path ∈ allP o a b) (h : ∀ p, joinAt o a b p = (getT c p, 0)) : joinTree o a b = (c, true) := by
  have h1 : joinC o a b (allP o a b) = [] := by
    unfold joinC
    rw [List.filterMap_eq_nil_iff]
    intro p _
    rw [h p]; rfl
  have h2 : joinF o a b (allP o a b) = c := by
    rw [← files_by (asc_tree hc) (asc_allP o a b) hi]
    unfold joinF
    congr 1
    funext p
    rw [h p]
  have h3 : joinOf o a b = (c, []) := by
    unfold joinOf
    rw [if_pos ho, h1, h2, if_neg (by rw [hc]; simp)]
  unfold joinTree
  rw [h3, if_pos ⟨ho, rfl⟩]
theorem one_left {o b : List File} (ho : treeB o = true) (hb : treeB b = true) : joinTree o o b = (b, true) :=
  tree_made (threeT_iff.2 ⟨ho, ho, hb⟩) hb (fun f hf => mem_allP.2 (.inr (.inr ⟨f, hf, rfl⟩))) fun _ => joinOne_left _ _
theorem one_right {o a : List File} (ho : treeB o = true) (ha : treeB a = true) : joinTree o a o = (a, true) :=
  tree_made (threeT_iff.2 ⟨ho, ha, ho⟩) ha (fun f hf => mem_allP.2 (.inr (.inl ⟨f, hf, rfl⟩))) fun _ => joinOne_right _ _
theorem one_same {o a : List File} (ho : treeB o = true) (ha : treeB a = true) : joinTree o a a = (a, true) :=
  tree_made (threeT_iff.2 ⟨ho, ha, ha⟩) ha (fun f hf => mem_allP.2 (.inr (.inl ⟨f, hf, rfl⟩))) fun _ => joinOne_same _ _
/-! the merge of the two sides, whichever is first -/
def swapPart (p : Part) : Part := ⟨p.clash, p.lines, p.old, p.two, p.one⟩
theorem putL_swap (out : List Part) (ls : List ByteArray) : putL (out.map swapPart) ls = (putL out ls).map swapPart := by
  unfold putL
  by_cases h0 : ls.length = 0
  · rw [if_pos h0, if_pos h0]
  · rw [if_neg h0, if_neg h0]
    by_cases h1 : 0 < out.length
    · have h1' : 0 < (out.map swapPart).length := by simpa using h1
      rw [dif_pos h1', dif_pos h1]
      have e : (out.map swapPart)[(out.map swapPart).length - 1] = swapPart out[out.length - 1] := by simp
      by_cases h2 : out[out.length - 1].clash = true
      · rw [if_pos (by rw [e]; exact h2), if_pos h2, List.map_append]; rfl
      · rw [if_neg (by rw [e]; exact h2), if_neg h2, e, List.length_map, List.map_set]; rfl
    · rw [dif_neg (by simpa using h1), dif_neg h1, List.map_append]; rfl
theorem piece_swap (out : List Part) (o x y : List ByteArray) : pieceG (out.map swapPart) o y x = (pieceG out o x y).map swapPart := by
  unfold pieceG
  by_cases h1 : x = o
  · subst h1
    rw [if_pos (show x = x ∨ x = y from .inl rfl)]
    by_cases h2 : y = x
    · subst h2
      rw [if_pos (.inl rfl)]; exact putL_swap _ _
    · rw [if_neg (by intro h; rcases h with h | h <;> exact h2 h), if_pos rfl]; exact putL_swap _ _
  · by_cases h2 : y = x
    · subst h2
      rw [if_pos (.inr rfl), if_pos (.inr rfl)]; exact putL_swap _ _
    · have h2' : ¬ x = y := fun h => h2 h.symm
      by_cases h3 : y = o
      · subst h3
        rw [if_pos (.inl rfl), if_neg (by intro h; rcases h with h | h <;> exact h2' h), if_pos rfl]; exact putL_swap _ _
      · rw [if_neg (show ¬ (y = o ∨ y = x) from by intro h; rcases h with h | h; exact h3 h; exact h2 h), if_neg h1, if_neg (show ¬ (x = o ∨ x = y) from by intro h; rcases h with h | h; exact h1 h; exact h2' h), if_neg h3, List.map_append]; rfl
theorem putO_swap (o : List ByteArray) (i : Nat) (out : List Part) : putO o i (out.map swapPart) = (putO o i out).map swapPart := by
  unfold putO
  split
  · exact putL_swap _ _
  · rfl
theorem mg_swap (o a b : List ByteArray) : ∀ (ps qs : List Int) (i fo fa fb : Nat) (out : List Part), mg o b a qs ps i fo fb fa (out.map swapPart) = (mg o a b ps qs i fo fa fb out).map swapPart
  | [], qs, i, fo, fa, fb, out => by cases qs <;> simp [mg]
  | p :: ps, [], i, fo, fa, fb, out => by simp [mg]
  | p :: ps, q :: qs, i, fo, fa, fb, out => by
    rw [mg, mg]
    by_cases h : p < 0 ∨ q < 0
    · rw [if_pos h, if_pos h.symm]; exact mg_swap o a b ps qs _ _ _ _ _
    · rw [if_neg h, if_neg (fun h' => h h'.symm), piece_swap, putO_swap]
      exact mg_swap o a b ps qs _ _ _ _ _
theorem textF_swap : ∀ (ps : List Part) (out : List ByteArray), textF (ps.map swapPart) out = textF ps out
  | [], _ => rfl
  | p :: ps, out => by
    rw [List.map_cons, textF, textF]
    show (if p.clash = true then none else textF (ps.map swapPart) (out ++ p.lines)) = _
    split
    · rfl
    · exact textF_swap ps _
theorem mText_swap (o a b : List ByteArray) : mText o b a = mText o a b := by
  unfold mText
  have h : threeB o b a = threeB o a b := by simp only [threeB, Bool.and_assoc]; rw [Bool.and_comm (textB b)]
  rw [h]
  have : mergeT o b a = (mergeT o a b).map swapPart := mg_swap o a b (pairsT o a) (pairsT o b) 0 0 0 0 []
  rw [this, textF_swap]
theorem joinOne_swap (o a b : Option (List ByteArray)) : joinOne o b a = joinOne o a b := by
  by_cases h1 : a = o
  · subst h1; rw [joinOne_left, joinOne_right]
  · by_cases h2 : b = o
    · subst h2; rw [joinOne_left, joinOne_right]
    · by_cases h3 : a = b
      · rw [h3]
      · have h3' : ¬ b = a := fun h => h3 h.symm
        unfold joinOne
        rw [if_neg (show ¬ (b = o ∨ b = a) from by intro h; rcases h with h | h; exact h2 h; exact h3' h), if_neg h1, if_neg (show ¬ (a = o ∨ a = b) from by intro h; rcases h with h | h; exact h1 h; exact h3 h), if_neg h2, mText_swap]
        by_cases h4 : a = none ∨ b = none
        · rw [if_pos h4, if_pos h4.symm]
        · rw [if_neg h4, if_neg (fun h => h4 h.symm)]
theorem joinAt_swap (o a b : List File) (p : ByteArray) : joinAt o b a p = joinAt o a b p := joinOne_swap _ _ _
theorem joinOf_swap (o a b : List File) : joinOf o b a = joinOf o a b := by
  unfold joinOf joinC joinF
  simp only [joinAt_swap o a b, allP_swap o a b, threeT_swap o a b]
theorem getT_made {F : ByteArray → Option (List ByteArray)} {q : ByteArray} : ∀ (ps : List ByteArray), (q ∉ ps → F q = none) → getT (ps.filterMap fun p => (F p).map fun x => (⟨p, x⟩ : File)) q = F q
  | [], h => (h (by simp)).symm
  | p :: ps, h => by
    by_cases hp : p = q
    · subst hp
      cases hf : F p with
      | none =>
        rw [List.filterMap_cons, hf]
        show getT (ps.filterMap fun p => (F p).map fun x => (⟨p, x⟩ : File)) p = none
        refine (getT_made ps fun _ => hf).trans hf
      | some x =>
        rw [List.filterMap_cons, hf]
        show getT (⟨p, x⟩ :: _) p = some x
        rw [getT, if_pos rfl]
    · have ih := getT_made (F := F) (q := q) ps fun hn => h (by simp [hn]; exact fun e => hp e.symm)
      cases hf : F p with
      | none => rw [List.filterMap_cons, hf]; exact ih
      | some x =>
        rw [List.filterMap_cons, hf]
        show getT (⟨p, x⟩ :: _) q = F q
        rw [getT, if_neg hp]; exact ih
theorem joinTree_ok {o a b t : List File} (h : joinTree o a b = (t, true)) : threeT o a b = true ∧ treeB t = true ∧ ∀ p, joinAt o a b p = (getT t p, 0) := by
  unfold joinTree at h
  split at h
  · rename_i h1
    obtain ⟨h3, h2⟩ := h1
    have ht : (joinOf o a b).1 = t := (Prod.mk.inj h).1
    unfold joinOf at h2 ht
    rw [if_pos h3] at h2 ht
    split at h2
    · cases h2
    · rename_i hn
      rw [if_neg hn] at ht
      have h2 : joinC o a b (allP o a b) = [] := h2
      have ht : joinF o a b (allP o a b) = t := ht
      have hout : ∀ p, p ∉ allP o a b → joinAt o a b p = (none, 0) := fun p hp => by
        rw [mem_allP] at hp
        have e1 : getT o p = none := getT_none fun f hf e => hp (.inl ⟨f, hf, e⟩)
        have e2 : getT a p = none := getT_none fun f hf e => hp (.inr (.inl ⟨f, hf, e⟩))
        have e3 : getT b p = none := getT_none fun f hf e => hp (.inr (.inr ⟨f, hf, e⟩))
        unfold joinAt
        rw [e1, e2, e3, joinOne_left]
      refine ⟨h3, ?_, fun p => ?_⟩
      · cases hb : treeB t with
        | true => rfl
        | false => exact absurd ⟨h2, by rw [ht]; exact hb⟩ hn
      · have hk : (joinAt o a b p).2 = 0 := by
          by_cases hp : p ∈ allP o a b
          · unfold joinC at h2
            rw [List.filterMap_eq_nil_iff] at h2
            have := h2 p hp
            by_cases h0 : (joinAt o a b p).2 = 0
            · exact h0
            · rw [if_neg h0] at this; cases this
          · rw [hout p hp]
        have hg : getT t p = (joinAt o a b p).1 := by
          rw [← ht]
          exact getT_made (F := fun p => (joinAt o a b p).1) _ fun hp => by rw [hout p hp]
        rw [hg, ← hk]
  · cases h
theorem path_law {o a b t : List File} (h : joinTree o a b = (t, true)) (p : ByteArray) :
    (getT a p = getT o p → getT t p = getT b p) ∧ (getT b p = getT o p → getT t p = getT a p) ∧
    (¬ getT a p = getT o p → ¬ getT b p = getT o p → (getT t p).isSome = (getT a p).isSome ∧ (getT a p).isSome = (getT b p).isSome ∧
      ((getT a p = getT b p ∧ getT t p = getT a p) ∨ (¬ getT a p = getT b p ∧ (mText ((getT o p).getD []) ((getT a p).getD []) ((getT b p).getD [])).2 = true ∧ (getT t p).getD [] = (mText ((getT o p).getD []) ((getT a p).getD []) ((getT b p).getD [])).1))) := by
  have hj := (joinTree_ok h).2.2 p
  unfold joinAt at hj
  generalize getT o p = O at *
  generalize getT a p = A at *
  generalize getT b p = B at *
  generalize getT t p = T at *
  refine ⟨fun e => ?_, fun e => ?_, fun e1 e2 => ?_⟩
  · subst e; rw [joinOne_left] at hj; exact (Prod.mk.inj hj).1.symm
  · subst e; rw [joinOne_right] at hj; exact (Prod.mk.inj hj).1.symm
  · by_cases e3 : A = B
    · subst e3; rw [joinOne_same] at hj
      have := (Prod.mk.inj hj).1
      exact ⟨by rw [this], rfl, .inl ⟨rfl, this.symm⟩⟩
    · unfold joinOne at hj
      rw [if_neg (by intro h; rcases h with h | h; exact e1 h; exact e3 h), if_neg e2] at hj
      split at hj
      · cases (Prod.mk.inj hj).2
      · rename_i h4
        split at hj
        · cases (Prod.mk.inj hj).2
        · split at hj
          · rename_i h5
            have h6 := (Prod.mk.inj hj).1
            have hA : A.isSome = true := by cases A with
              | none => exact absurd (.inl rfl) h4
              | some _ => rfl
            have hB : B.isSome = true := by cases B with
              | none => exact absurd (.inr rfl) h4
              | some _ => rfl
            refine ⟨by rw [← h6, hA]; rfl, by rw [hA, hB], .inr ⟨e3, h5, by rw [← h6]; rfl⟩⟩
          · cases (Prod.mk.inj hj).2
end Go.Vc
namespace Go.Vc
section
variable {o a b : List File} {ps : List ByteArray} {k : Nat} {x : List ByteArray}
theorem joinF_yes {M ol : List File} (H : M = ol ++ joinF o a b (ps.drop k)) (hk : k < ps.length) (h : (joinAt o a b ps[k]).1 = some x) : M = (ol ++ [⟨ps[k], x⟩]) ++ joinF o a b (ps.drop (k + 1)) := by
  rw [H, drop_cons ps k hk, joinF, List.filterMap_cons, h, List.append_assoc]; rfl
theorem joinF_no {M ol : List File} (H : M = ol ++ joinF o a b (ps.drop k)) (hk : k < ps.length) (h : (joinAt o a b ps[k]).1 = none) : M = ol ++ joinF o a b (ps.drop (k + 1)) := by
  rw [H, drop_cons ps k hk, joinF, List.filterMap_cons, h]; rfl
theorem joinF_end {M ol : List File} (H : M = ol ++ joinF o a b (ps.drop k)) (hk : ¬ k < ps.length) : M = ol := by rw [H, drop_nil ps k hk]; simp [joinF]
theorem joinC_yes {M cl : List Clash} (H : M = cl ++ joinC o a b (ps.drop k)) (hk : k < ps.length) {n : Nat} (e : (joinAt o a b ps[k]).2 = n) (h : ¬ n = 0) : M = (cl ++ [⟨ps[k], (n : Int)⟩]) ++ joinC o a b (ps.drop (k + 1)) := by
  subst e
  rw [H, drop_cons ps k hk, joinC, List.filterMap_cons, if_neg h, List.append_assoc]; rfl
theorem joinC_no {M cl : List Clash} (H : M = cl ++ joinC o a b (ps.drop k)) (hk : k < ps.length) (h : (joinAt o a b ps[k]).2 = 0) : M = cl ++ joinC o a b (ps.drop (k + 1)) := by
  rw [H, drop_cons ps k hk, joinC, List.filterMap_cons, if_pos h]; rfl
theorem joinC_end {M cl : List Clash} (H : M = cl ++ joinC o a b (ps.drop k)) (hk : ¬ k < ps.length) : M = cl := by rw [H, drop_nil ps k hk]; simp [joinC]
end
theorem joinOne_kind (o a b : Option (List ByteArray)) : (joinOne o a b).2 ≤ 3 := by
  unfold joinOne
  split
  · simp
  · split
    · simp
    · split
      · simp
      · split
        · simp
        · split <;> simp
theorem joinF_path {o a b : List File} {ps : List ByteArray} {f : File} (h : f ∈ joinF o a b ps) : f.path ∈ ps := by
  unfold joinF at h
  obtain ⟨p, hp, h2⟩ := List.mem_filterMap.1 h
  rw [Option.map_eq_some_iff] at h2
  obtain ⟨x, _, rfl⟩ := h2
  exact hp
theorem joinF_len (o a b : List File) (ps : List ByteArray) : (joinF o a b ps).length ≤ ps.length := List.length_filterMap_le _ _
theorem joinC_len (o a b : List File) (ps : List ByteArray) : (joinC o a b ps).length ≤ ps.length := List.length_filterMap_le _ _
theorem allP_small {P : ByteArray → Prop} {o a b : List File} (ho : ∀ f, f ∈ o → P f.path) (ha : ∀ f, f ∈ a → P f.path) (hb : ∀ f, f ∈ b → P f.path) : ∀ p, p ∈ allP o a b → P p := fun p hp => by
  rcases mem_allP.1 hp with ⟨f, hf, rfl⟩ | ⟨f, hf, rfl⟩ | ⟨f, hf, rfl⟩
  · exact ho f hf
  · exact ha f hf
  · exact hb f hf
theorem joinOf_bad {o a b : List File} (h : threeT o a b = false) : joinOf o a b = ([], []) := by unfold joinOf; rw [if_neg (by rw [h]; simp)]
theorem joinOf_tree {o a b : List File} (h : threeT o a b = true) (h1 : joinC o a b (allP o a b) = []) (h2 : treeB (joinF o a b (allP o a b)) = false) : joinOf o a b = (o, [⟨⟨#[]⟩, 4⟩]) := by unfold joinOf; rw [if_pos h, if_pos ⟨h1, h2⟩]
theorem joinOf_ok {o a b : List File} (h : threeT o a b = true) (h1 : ¬ joinC o a b (allP o a b) = [] ∨ treeB (joinF o a b (allP o a b)) = true) : joinOf o a b = (joinF o a b (allP o a b), joinC o a b (allP o a b)) := by
  unfold joinOf
  rw [if_pos h, if_neg]
  rintro ⟨e1, e2⟩
  rcases h1 with h1 | h1
  · exact h1 e1
  · rw [h1] at e2; cases e2
theorem joinTree_yes {o a b : List File} (h : threeT o a b = true) (h2 : (joinOf o a b).2 = []) : joinTree o a b = ((joinOf o a b).1, true) := by unfold joinTree; rw [if_pos ⟨h, h2⟩]
theorem joinTree_bad {o a b : List File} (h : threeT o a b = false) : joinTree o a b = ([], false) := by unfold joinTree; rw [if_neg (by rw [h]; simp)]
theorem joinTree_no {o a b : List File} (h2 : ¬ (joinOf o a b).2 = []) : joinTree o a b = ([], false) := by unfold joinTree; rw [if_neg (fun e => h2 e.2)]
theorem joinFree_bad {o a b : List File} (h : threeT o a b = false) : joinFree o a b = false := by unfold joinFree; rw [h]; rfl
theorem joinFree_ok {o a b : List File} (h : threeT o a b = true) : joinFree o a b = (allP o a b).all (freeAt o a b) := by unfold joinFree; rw [h]; rfl
section
variable {o a b : List File} {ps : List ByteArray} {k : Nat} {M : Bool}
theorem free_next (H : M = (ps.drop k).all (freeAt o a b)) (hk : k < ps.length) (h : freeAt o a b ps[k] = true) : M = (ps.drop (k + 1)).all (freeAt o a b) := by
  rw [H, drop_cons ps k hk, List.all_cons, h, Bool.true_and]
theorem free_stop (H : M = (ps.drop k).all (freeAt o a b)) (hk : k < ps.length) (h : freeAt o a b ps[k] = false) : M = false := by
  rw [H, drop_cons ps k hk, List.all_cons, h, Bool.false_and]
theorem free_end (H : M = (ps.drop k).all (freeAt o a b)) (hk : ¬ k < ps.length) : M = true := by rw [H, drop_nil ps k hk]; rfl
end
end Go.Vc
namespace Go.Vc
open Go.Sort Go.Proofs
theorem lessL_lt : ∀ (a b : List UInt8), lessL a b = true ↔ a < b
  | a, [] => by
    have e : lessL a [] = false := by cases a <;> rfl
    rw [e]
    simp
  | [], y :: b => by
    have e : lessL [] (y :: b) = true := rfl
    rw [e]
    simp
  | x :: a, y :: b => by
    rw [lessL_cons, List.cons_lt_cons_iff, Bool.or_eq_true, Bool.and_eq_true, decide_eq_true_eq, decide_eq_true_eq, lessL_lt a b, UInt8.lt_iff_toNat_lt]
def bytesOf (x : ByteArray) : List UInt8 := x.data.toList
def ofBytes (l : List UInt8) : ByteArray := ⟨l.toArray⟩
theorem of_bytes (x : ByteArray) : ofBytes (bytesOf x) = x := by cases x; rfl
theorem bytes_of (l : List UInt8) : bytesOf (ofBytes l) = l := rfl
theorem less_lt (a b : ByteArray) : lessB a b = true ↔ bytesOf a < bytesOf b := by
  unfold lessB bytesOf
  rw [ByteArray.toList_eq, ByteArray.toList_eq]
  exact lessL_lt _ _
def strsL (xs : List ByteArray) : List (List UInt8) := xs.map bytesOf
def ofStrs (ls : List (List UInt8)) : List ByteArray := ls.map ofBytes
theorem strs_of (ls : List (List UInt8)) : strsL (ofStrs ls) = ls := by
  unfold strsL ofStrs
  rw [List.map_map]
  have : bytesOf ∘ ofBytes = id := funext bytes_of
  rw [this, List.map_id]
theorem of_strs (xs : List ByteArray) : ofStrs (strsL xs) = xs := by
  unfold strsL ofStrs
  rw [List.map_map]
  have : ofBytes ∘ bytesOf = id := funext of_bytes
  rw [this, List.map_id]
def leU : List UInt8 → List UInt8 → Bool := fun x y => decide (x ≤ y)
def sortU (ls : List (List UInt8)) : List (List UInt8) := ls.mergeSort fun x y => decide (x ≤ y)
def sortS (xs : List ByteArray) : List ByteArray := ofStrs (sortU (strsL xs))
def compS (xs : List ByteArray) : List ByteArray := ofStrs (Lib.compact (strsL xs))
theorem strs_len (xs : List ByteArray) : (strsL xs).length = xs.length := by simp [strsL]
theorem ofStrs_len (xs : List (List UInt8)) : (ofStrs xs).length = xs.length := by simp [ofStrs]
theorem sortU_len (ls : List (List UInt8)) : (sortU ls).length = ls.length := by simp [sortU]
theorem sortS_len (xs : List ByteArray) : (sortS xs).length = xs.length := by rw [sortS, ofStrs_len, sortU_len, strs_len]
theorem sortU_perm (ls : List (List UInt8)) : (sortU ls).Perm ls := List.mergeSort_perm _ _
theorem sortU_asc (ls : List (List UInt8)) : (sortU ls).Pairwise (· ≤ ·) := by
  have h := List.pairwise_mergeSort (le := fun x y : List UInt8 => decide (x ≤ y)) (fun a b c h1 h2 => by simp only [decide_eq_true_eq] at *; exact List.le_trans h1 h2) (fun a b => by simp only [Bool.or_eq_true, decide_eq_true_eq]; exact List.le_total a b) ls
  exact h.imp fun h => by simpa using h
theorem mem_strs {xs : List ByteArray} {q : ByteArray} : bytesOf q ∈ strsL xs ↔ q ∈ xs := by
  unfold strsL
  rw [List.mem_map]
  constructor
  · rintro ⟨x, hx, e⟩
    have := congrArg ofBytes e
    rw [of_bytes, of_bytes] at this
    rw [← this]; exact hx
  · intro h
    exact ⟨q, h, rfl⟩
theorem mem_ofStrs {ls : List (List UInt8)} {q : ByteArray} : q ∈ ofStrs ls ↔ bytesOf q ∈ ls := by
  rw [← mem_strs, strs_of]
theorem mem_sortS {xs : List ByteArray} {q : ByteArray} : q ∈ sortS xs ↔ q ∈ xs := by
  rw [sortS, mem_ofStrs, (sortU_perm _).mem_iff, mem_strs]
theorem mem_compact {zs : List (List UInt8)} {x : List UInt8} : x ∈ Lib.compact zs ↔ x ∈ zs := by
  unfold Lib.compact Lib.compactUpTo
  rw [List.mem_map]
  constructor
  · rintro ⟨i, hi, rfl⟩
    rw [List.mem_filter, List.mem_range] at hi
    have h1 : i < zs.toArray.size := by simpa using hi.1
    rw [getElem!_pos _ i h1]
    simp
  · intro hx
    obtain ⟨i, hi, rfl⟩ := List.getElem_of_mem hx
    induction i with
    | zero => exact ⟨0, by rw [List.mem_filter, List.mem_range]; exact ⟨hi, by simp [Lib.keeps]⟩, by rw [getElem!_pos _ 0 (by simpa using hi)]; simp⟩
    | succ i ih =>
      by_cases he : zs[i + 1] = zs[i]'(by omega)
      · rw [he]
        exact ih (by omega) (List.getElem_mem _)
      · refine ⟨i + 1, ?_, by rw [getElem!_pos _ _ (by simpa using hi)]; simp⟩
        rw [List.mem_filter, List.mem_range]
        refine ⟨hi, Lib.keeps_pos ?_⟩
        rw [getElem!_pos _ _ (by simpa using hi), getElem!_pos _ _ (by simp; omega)]
        simpa using he
theorem compact_asc {zs : List (List UInt8)} (h : zs.Pairwise (· ≤ ·)) : (Lib.compact zs).Pairwise (· < ·) := by
  unfold Lib.compact Lib.compactUpTo
  rw [List.pairwise_map]
  refine List.Pairwise.imp_of_mem ?_ (List.Pairwise.filter (Lib.keeps zs.toArray) List.pairwise_lt_range)
  intro i j hi hj hij
  rw [List.mem_filter, List.mem_range] at hi hj
  have hj1 := hj.1
  rw [getElem!_pos _ i (by simpa using hi.1), getElem!_pos _ j (by simpa using hj.1)]
  have hk := hj.2
  unfold Lib.keeps at hk
  rw [decide_eq_true_eq] at hk
  have hne := hk.resolve_left (by omega)
  rw [getElem!_pos _ j (by simpa using hj.1), getElem!_pos _ (j - 1) (by simp; omega)] at hne
  simp only [List.getElem_toArray] at hne ⊢
  have h1 : zs[i] ≤ zs[j - 1]'(by omega) := by
    by_cases e : i = j - 1
    · subst e; exact List.le_refl _
    · exact List.pairwise_iff_getElem.1 h i (j - 1) (by omega) (by omega) (by omega)
  have h2 : zs[j - 1]'(by omega) ≤ zs[j] := List.pairwise_iff_getElem.1 h (j - 1) j (by omega) (by omega) (by omega)
  have h3 : zs[j - 1]'(by omega) < zs[j] := by
    refine Classical.byContradiction fun hn => hne ?_
    exact List.le_antisymm (List.not_lt.1 hn) h2
  exact List.lt_of_le_of_lt h1 h3
/-- in order, each once -/
theorem comp_asc (xs : List ByteArray) : AscP (compS (sortS xs)) := by
  unfold compS sortS AscP
  rw [strs_of]
  unfold ofStrs
  rw [List.pairwise_map]
  exact (compact_asc (sortU_asc _)).imp fun {a b} h => (less_lt _ _).2 h
theorem mem_comp {xs : List ByteArray} {q : ByteArray} : q ∈ compS xs ↔ q ∈ xs := by
  unfold compS
  rw [mem_ofStrs, mem_compact, mem_strs]
def pathsT (t : List File) : List ByteArray := t.map (·.path)
theorem mem_pathsT {t : List File} {q : ByteArray} : q ∈ pathsT t ↔ ∃ f, f ∈ t ∧ f.path = q := by
  unfold pathsT; rw [List.mem_map]
theorem all_comp (o a b : List File) : compS (sortS (pathsT o ++ pathsT a ++ pathsT b)) = allP o a b :=
  ascP_ext (comp_asc _) (asc_allP _ _ _) fun q => by
    rw [mem_comp, mem_sortS, List.mem_append, List.mem_append, mem_pathsT, mem_pathsT, mem_pathsT, mem_allP, or_assoc]
theorem compS_len (xs : List ByteArray) : (compS xs).length ≤ xs.length := by
  unfold compS
  rw [ofStrs_len]
  unfold Lib.compact Lib.compactUpTo
  rw [List.length_map, ← strs_len xs]
  have := List.length_filter_le (Lib.keeps (strsL xs).toArray) (List.range (strsL xs).length)
  simpa using this
/-- as many as there were: each was there once -/
theorem comp_nodup (xs : List ByteArray) : (compS (sortS xs)).length = xs.length ↔ xs.Nodup := by
  have hn : (compS (sortS xs)).Nodup := (comp_asc xs).imp fun {a b} h e => by rw [e, lessB_irr] at h; cases h
  constructor
  · intro h
    have h1 : (Lib.compact (sortU (strsL xs))).length = (sortU (strsL xs)).length := by
      rw [sortU_len, strs_len, ← h]
      unfold compS sortS
      rw [strs_of, ofStrs_len]
    have h2 : Lib.compact (sortU (strsL xs)) = sortU (strsL xs) := by
      refine Lib.compact_all _ fun j hj => ?_
      unfold Lib.compact Lib.compactUpTo at h1
      rw [List.length_map] at h1
      have h3 : ((List.range (sortU (strsL xs)).length).filter (Lib.keeps (sortU (strsL xs)).toArray)).length = (List.range (sortU (strsL xs)).length).length := by rw [h1]; simp
      exact List.length_filter_eq_length_iff.1 h3 j (List.mem_range.2 hj)
    have h4 : (sortU (strsL xs)).Nodup := by
      rw [← h2]
      exact (compact_asc (sortU_asc _)).imp fun {a b} h e => by rw [e] at h; exact List.lt_irrefl _ h
    have h5 : (strsL xs).Nodup := (sortU_perm _).nodup_iff.1 h4
    unfold strsL at h5
    unfold List.Nodup at h5 ⊢
    rw [List.pairwise_map] at h5
    exact h5.imp fun {a b} h e => h (by rw [e])
  · intro h
    have h1 : (strsL xs).Nodup := by
      unfold strsL List.Nodup
      rw [List.pairwise_map]
      exact List.Pairwise.imp (fun {a b} h e => h (by have := congrArg ofBytes e; rwa [of_bytes, of_bytes] at this)) h
    have h2 : (sortU (strsL xs)).Nodup := (sortU_perm _).nodup_iff.2 h1
    unfold compS sortS
    rw [strs_of, Lib.compact_all, ofStrs_len, sortU_len, strs_len]
    intro j hj
    by_cases hj0 : j = 0
    · subst hj0; simp [Lib.keeps]
    · refine Lib.keeps_pos ?_
      rw [getElem!_pos _ _ (by simpa using hj), getElem!_pos _ _ (by simp; omega)]
      simp only [List.getElem_toArray]
      intro e
      have := List.pairwise_iff_getElem.1 h2 (j - 1) j (by omega) hj (by omega)
      exact this e.symm
end Go.Vc
