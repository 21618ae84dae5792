/-
  Plain law: a file that goes elsewhere takes all that refer to it along. No program is in sight here.
-/
import Derived.Test.YtegknjcifmenpaaDoorPlTM
import Derived.Test.YtegknjcifmenpaaDoorVRM
import Derived.Test.YtegknjcifmenpaaDoorVQ
set_option linter.unusedVariables false
namespace Go.Vc
/-- lines of this kind -/
def linesN (P : ByteArray → Bool) : List File → Nat
  | [] => 0
  | f :: r => (f.text.filter P).length + linesN P r
theorem linesN_app (P : ByteArray → Bool) : ∀ (a b : List File), linesN P (a ++ b) = linesN P a + linesN P b
  | [], b => by simp [linesN]
  | f :: a, b => by
    show (f.text.filter P).length + linesN P (a ++ b) = (f.text.filter P).length + linesN P a + linesN P b
    rw [linesN_app P a b]; omega
theorem linesN_cong {P Q : ByteArray → Bool} : ∀ {a : List File}, (∀ f, f ∈ a → ∀ s, s ∈ f.text → P s = Q s) → linesN P a = linesN Q a
  | [], _ => rfl
  | f :: a, h => by
    have e : f.text.filter P = f.text.filter Q := List.filter_congr fun s hs => h f (List.mem_cons_self ..) s hs
    show (f.text.filter P).length + linesN P a = (f.text.filter Q).length + linesN Q a
    rw [e, linesN_cong fun g hg => h g (List.mem_cons_of_mem _ hg)]
/-- the set in a tree at a path of its own adds one file -/
theorem linesN_set (P : ByteArray → Bool) {b : List File} (hb : AscF b) {f : File} (h : (setT b f).length = b.length + 1) : linesN P (setT b f) = linesN P b + (f.text.filter P).length := by
  obtain ⟨A, M, B, h1, h2, h3, h4, h5⟩ := tset_split f hb
  rcases h5 with rfl | ⟨m, rfl, hm⟩
  · rw [h2, h1, List.nil_append, linesN_app, linesN_app]
    show linesN P A + ((f.text.filter P).length + linesN P B) = _
    omega
  · rw [h2, h1] at h
    simp at h
theorem linesN_mov (P : ByteArray → Bool) {q d : ByteArray} : ∀ {r b : List File}, AscF b → (movG q d b r).length = b.length + (r.filter fun f => isAtB q f.path).length → linesN P (movG q d b r) = linesN P b + linesN P (r.filter fun f => isAtB q f.path)
  | [], b, _, _ => by show linesN P b = linesN P b + 0; omega
  | f :: r, b, hb, hl => by
    cases hp : isAtB q f.path with
    | false =>
      have e : movG q d b (f :: r) = movG q d b r := by rw [movG, if_neg (by rw [hp]; simp)]
      rw [e] at hl ⊢
      rw [List.filter_cons_of_neg (by rw [hp]; simp)] at hl ⊢
      exact linesN_mov P hb hl
    | true =>
      have e : movG q d b (f :: r) = movG q d (setT b (mvF q d f)) r := by rw [movG, if_pos hp]
      rw [e] at hl ⊢
      rw [List.filter_cons_of_pos (by exact hp)] at hl ⊢
      rw [List.length_cons] at hl
      have h2 := movG_len q d r (setT b (mvF q d f))
      have h3 := setT_len b (mvF q d f)
      rw [linesN_mov P (asc_set hb _) (by omega), linesN_set P hb (by omega)]
      show linesN P b + (f.text.filter P).length + _ = linesN P b + ((f.text.filter P).length + _)
      omega
theorem linesN_part (P : ByteArray → Bool) (q : ByteArray) : ∀ (t : List File), linesN P (dropT t q) + linesN P (t.filter fun f => isAtB q f.path) = linesN P t
  | [] => rfl
  | f :: r => by
    have ih := linesN_part P q r
    unfold dropT at ih ⊢
    cases hp : isAtB q f.path with
    | true =>
      rw [List.filter_cons_of_neg (by rw [hp]; simp), List.filter_cons_of_pos (by exact hp)]
      show _ + ((f.text.filter P).length + _) = (f.text.filter P).length + _
      omega
    | false =>
      rw [List.filter_cons_of_pos (by rw [hp]; rfl), List.filter_cons_of_neg (by rw [hp]; simp)]
      show (f.text.filter P).length + _ + _ = (f.text.filter P).length + _
      omega
theorem linesN_map (P : ByteArray → Bool) (path dst : ByteArray) : ∀ (x : List File), linesN P (treeM path dst x) = linesN (fun s => P (lineM path dst s)) x
  | [] => rfl
  | f :: x => by
    show ((f.text.map (lineM path dst)).filter P).length + linesN P (treeM path dst x) = (f.text.filter _).length + linesN _ x
    rw [linesN_map P path dst x, List.filter_map, List.length_map]
    rfl
theorem lostL_n (t : List File) (p : ByteArray) (R : ByteArray → Bool) : ∀ (xs : List ByteArray) (k : Nat), ((lostL t p xs k).filter fun l => R l.ref).length = (xs.filter fun s => badB t s && R (refT s)).length
  | [], _ => rfl
  | s :: r, k => by
    rw [lostL, List.filter_append, List.length_append, lostL_n t p R r (k + 1)]
    cases hb : badB t s with
    | false =>
      rw [if_neg (by simp), List.filter_cons_of_neg (by rw [hb]; simp)]
      simp
    | true =>
      rw [if_pos rfl]
      cases hr : R (refT s) with
      | false => rw [List.filter_cons_of_neg (by show ¬ R (refT s) = true; rw [hr]; simp), List.filter_cons_of_neg (by rw [hb, hr]; simp)]; simp
      | true => rw [List.filter_cons_of_pos (by exact hr), List.filter_cons_of_pos (by rw [hb, hr]; rfl)]; simp; omega
theorem lostA_n (t : List File) (R : ByteArray → Bool) : ∀ (fs : List File), ((lostA t fs).filter fun l => R l.ref).length = linesN (fun s => badB t s && R (refT s)) fs
  | [] => rfl
  | f :: r => by
    rw [lostA, List.filter_append, List.length_append, lostL_n, lostA_n t R r]
    rfl
theorem getT_none {t : List File} {p : ByteArray} (h : ∀ f, f ∈ t → ¬ f.path = p) : getT t p = none := by
  cases hg : getT t p with
  | none => rfl
  | some x =>
    obtain ⟨f, hf, hp, _⟩ := getT_mem hg
    exact absurd hp (h f hf)
theorem getT_some {t : List File} {f : File} (hf : f ∈ t) : (getT t f.path).isNone = false := by
  induction t with
  | nil => cases hf
  | cons g r ih =>
    rw [getT]
    split
    · rfl
    · rename_i hne
      rcases List.mem_cons.1 hf with rfl | hf
      · exact absurd rfl hne
      · exact ih hf
theorem linesN_sum (P Q : ByteArray → Bool) : ∀ (x : List File), linesN (fun s => P s && !Q s) x + linesN (fun s => P s && Q s) x = linesN P x
  | [] => rfl
  | f :: x => by
    have ih := linesN_sum P Q x
    have e : ∀ xs : List ByteArray, (xs.filter fun s => P s && !Q s).length + (xs.filter fun s => P s && Q s).length = (xs.filter P).length := fun xs => by
      induction xs with
      | nil => rfl
      | cons s r ih =>
        simp only [List.filter_cons]
        cases P s <;> cases Q s <;> simp <;> omega
    have := e f.text
    show (f.text.filter _).length + _ + ((f.text.filter _).length + _) = (f.text.filter P).length + _
    omega
theorem path_ne' {t : List File} {p : ByteArray} (hT : treeB t = true) {x : List ByteArray} (h : getT t p = some x) : ¬ p = ⟨#[]⟩ := fun e => by
  obtain ⟨f, hf, hp⟩ : ∃ f, f ∈ t ∧ f.path = p := by
    clear hT
    induction t with
    | nil => cases h
    | cons g r ih =>
      rw [getT] at h
      split at h
      · rename_i hg
        exact ⟨g, List.mem_cons_self .., hg⟩
      · obtain ⟨f, h1, h2⟩ := ih h
        exact ⟨f, List.mem_cons_of_mem _ h1, h2⟩
  have h1 := (((tree_iff t).1 hT).2.1 f hf).1
  rw [hp, e] at h1
  exact absurd h1 (by decide)
theorem rm_law {t x : List File} {path dst : ByteArray} (hT : treeB t = true) (hb : ruleMoveB t path dst = true) (hx : ruleMove t path dst = x) :
    treeB x = true ∧ x.length = t.length ∧ (ruleLost x).length + ((ruleLost t).filter fun l => decide (l.ref = dst)).length = (ruleLost t).length ∧ (¬ path = dst → ruleUses x path = []) ∧ (∀ f, f ∈ x → ∃ g, g ∈ t ∧ f.path.size ≤ dst.size + g.path.size) := by
  have hb0 := hb
  unfold ruleMoveB at hb0
  simp only [Bool.and_eq_true] at hb0
  obtain ⟨_, hsome, hmv, hTx⟩ := hb0
  have ex : x = treeM path dst (movedT t path dst) := by rw [← hx, ruleMove_ok hT, if_pos hb]
  subst ex
  obtain ⟨px, hpx⟩ := Option.isSome_iff_exists.1 hsome
  have hpne := path_ne' hT hpx
  obtain ⟨f0, hf0, hf0p, _⟩ := getT_mem hpx
  have hmv0 := hmv
  unfold moveB at hmv0
  simp only [Bool.and_eq_true, decide_eq_true_eq] at hmv0
  obtain ⟨_, hlt, hpd, hTy, hlen⟩ := hmv0
  have hdne : ¬ dst = ⟨#[]⟩ := fun e => by rw [e] at hpd; exact absurd hpd (by decide)
  have hD := drop_asc (asc_tree hT) path
  have hl0 : (movG path dst (dropT t path) t).length = (dropT t path).length + (t.filter fun f => isAtB path f.path).length := by
    show (movedT t path dst).length = _
    rw [hlen, drop_parts]
  have hmem := movG_free (q := path) (d := dst) hD hl0
  have hat : ∀ f, f ∈ t → isAtB path f.path = true → f.path = path := fun f hf hp => by
    unfold isAtB at hp
    rw [Bool.or_eq_true] at hp
    rcases hp with hp | hp
    · exact of_decide_eq_true hp
    · exfalso
      have hpw := ((tree_iff t).1 hT).2.2
      rw [← hf0p] at hp
      have hless := inB_less hp
      obtain ⟨i, hi, hie⟩ := List.getElem_of_mem hf0
      obtain ⟨j, hj, hje⟩ := List.getElem_of_mem hf
      rcases Nat.lt_trichotomy i j with h | h | h
      · have := (List.pairwise_iff_getElem.1 hpw i j hi hj h).2
        rw [hie, hje, hp] at this
        cases this
      · subst h
        rw [hie] at hje
        rw [hje, lessB_irr] at hless
        cases hless
      · have := (List.pairwise_iff_getElem.1 hpw j i hj hi h).1
        rw [hie, hje] at this
        have h2 := lessB_asymm hless
        rw [this] at h2
        cases h2
  have hself : isAtB path path = true := by unfold isAtB; rw [decide_eq_true rfl]; rfl
  have hmd : mvP path dst path = dst := by
    refine ba_ext ?_
    rw [mvP_list (q := path) (d := dst) (p := path) (r := []) (by simp)]
    simp
  -- the paths behind it
  have hgone : ∀ q, (getT (treeM path dst (movedT t path dst)) q).isNone = (decide (¬ q = dst) && (decide (q = path) || (getT t q).isNone)) := fun q => by
    by_cases hqd : q = dst
    · have hm : fileM path dst (mvF path dst f0) ∈ treeM path dst (movedT t path dst) := List.mem_map.2 ⟨_, (hmem _).2 (.inr ⟨f0, hf0, by rw [hf0p]; exact hself, rfl⟩), rfl⟩
      have h1 := getT_some hm
      have h2 : (fileM path dst (mvF path dst f0)).path = dst := by show mvP path dst f0.path = dst; rw [hf0p, hmd]
      rw [h2] at h1
      rw [hqd, h1]
      simp
    · rw [decide_eq_true hqd, Bool.true_and]
      by_cases hqp : q = path
      · rw [decide_eq_true hqp, Bool.true_or]
        rw [getT_none (t := treeM path dst (movedT t path dst)) (p := q) fun f hf => ?_]
        · rfl
        · obtain ⟨g, hg, rfl⟩ := List.mem_map.1 hf
          show ¬ g.path = q
          rcases (hmem g).1 hg with h | ⟨h, h1, h2, rfl⟩
          · intro e
            have h3 := (List.mem_filter.1 h).2
            rw [e, hqp, hself] at h3
            cases h3
          · show ¬ mvP path dst h.path = q
            rw [hat h h1 h2, hmd]
            exact fun e => hqd e.symm
      · rw [decide_eq_false hqp, Bool.false_or]
        cases hg : getT t q with
        | none =>
          rw [getT_none (t := treeM path dst (movedT t path dst)) (p := q) fun f hf => ?_]
          obtain ⟨g, hgm, rfl⟩ := List.mem_map.1 hf
          show ¬ g.path = q
          rcases (hmem g).1 hgm with h | ⟨h, h1, h2, rfl⟩
          · intro e
            have h3 := getT_some (List.mem_filter.1 h).1
            rw [e, hg] at h3
            cases h3
          · show ¬ mvP path dst h.path = q
            rw [hat h h1 h2, hmd]
            exact fun e => hqd e.symm
        | some tx =>
          obtain ⟨f, hf, hfp, _⟩ := getT_mem hg
          have hm : f ∈ movedT t path dst := (hmem f).2 (.inl (List.mem_filter.2 ⟨hf, by
            cases h : isAtB path f.path with
            | false => rfl
            | true => exact absurd ((hat f hf h).symm.trans hfp).symm hqp⟩))
          have h1 := getT_some (t := treeM path dst (movedT t path dst)) (List.mem_map.2 ⟨f, hm, rfl⟩ : fileM path dst f ∈ _)
          have h2 : (fileM path dst f).path = q := hfp
          rw [h2] at h1
          rw [h1]
          rfl
  have hsee : refT (seeT ++ dst) = dst := by
    have h := hit_see (path := dst) (s := seeT ++ dst) hdne
    rw [hit_path hdne] at h
    exact of_decide_eq_true (h.trans (decide_eq_true rfl))
  have hline : ∀ s, badB (treeM path dst (movedT t path dst)) (lineM path dst s) = (badB t s && !decide (refT s = dst)) := fun s => by
    by_cases hs : refT s = path
    · have hh : hitB path s = true := by rw [hit_path hpne]; exact decide_eq_true hs
      rw [lineM_yes hh]
      have e1 : badB (treeM path dst (movedT t path dst)) (seeT ++ dst) = false := by
        unfold badB
        rw [hsee, hgone dst]
        simp
      have e2 : badB t s = false := by
        unfold badB
        rw [hs, hpx]
        simp
      rw [e1, e2]
      rfl
    · have hh : hitB path s = false := by rw [hit_path hpne]; exact decide_eq_false hs
      rw [lineM_no hh]
      unfold badB
      rw [hgone, decide_eq_false hs, Bool.false_or]
      by_cases h : refT s = dst
      · rw [decide_eq_true h, h]; simp
      · rw [decide_eq_false h, decide_eq_true (show ¬ refT s = dst from h)]; simp
  have hall : ∀ (u fs : List File), (lostA u fs).length = linesN (badB u) fs := fun u fs => by
    have := lostA_n u (fun _ => true) fs
    rw [show ((lostA u fs).filter fun l => true) = lostA u fs from List.filter_eq_self.2 fun _ _ => rfl] at this
    rw [this]
    exact linesN_cong fun f _ s _ => by simp
  have hlinesT : ∀ P, linesN P (movedT t path dst) = linesN P t := fun P => by
    show linesN P (movG path dst (dropT t path) t) = _
    rw [linesN_mov P hD hl0, linesN_part]
  refine ⟨hTx, by unfold treeM; rw [List.length_map]; exact hlen, ?_, ?_, ?_⟩
  · unfold ruleLost
    rw [if_pos hTx, if_pos hT, hall, hall, linesN_map]
    rw [lostA_n t (fun r => decide (r = dst)) t]
    rw [linesN_cong (P := fun s => badB (treeM path dst (movedT t path dst)) (lineM path dst s)) (Q := fun s => badB t s && !decide (refT s = dst)) fun f _ s _ => hline s]
    rw [hlinesT]
    exact linesN_sum (badB t) (fun s => decide (refT s = dst)) t
  · intro hpd2
    unfold ruleUses usesT
    rw [if_pos hTx, List.map_eq_nil_iff, List.filter_eq_nil_iff]
    intro f hf
    obtain ⟨g, hg, rfl⟩ := List.mem_map.1 hf
    unfold usesB
    rw [Bool.not_eq_true, List.any_eq_false]
    intro s hs
    obtain ⟨s0, _, rfl⟩ := List.mem_map.1 hs
    rw [hit_path hpne]
    by_cases h : hitB path s0 = true
    · rw [lineM_yes h, hsee, decide_eq_false (fun e => hpd2 e.symm)]; simp
    · have h' : hitB path s0 = false := by simpa using h
      rw [lineM_no h']
      rw [hit_path hpne] at h
      exact h
  · intro f hf
    obtain ⟨g, hg, rfl⟩ := List.mem_map.1 hf
    show ∃ g', g' ∈ t ∧ g.path.size ≤ _
    rcases (hmem g).1 hg with h | ⟨h, h1, h2, rfl⟩
    · exact ⟨g, (List.mem_filter.1 h).1, by omega⟩
    · refine ⟨h, h1, ?_⟩
      show (mvP path dst h.path).size ≤ _
      rw [mvP_size (isAt_size h2)]
      omega
end Go.Vc
