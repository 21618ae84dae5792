/-
  Plain law: what is moved is there, and there alone, and it goes back. No program is in sight here.
-/
import Derived.Test.YthddcfbjgcbioaaGreatDoorVUM
set_option linter.unusedVariables false
namespace Go.Vc
theorem cutL_app (c : UInt8) : ∀ (p r : List UInt8), cutL c (p ++ c :: r) = cutL c p ++ cutL c r
  | [], r => by
    show cutL c (c :: r) = [] :: cutL c r
    simp [cutL]
  | b :: p, r => by
    have ih := cutL_app c p r
    show cutL c (b :: (p ++ c :: r)) = _
    rw [cutL, cutL]
    split
    · rw [ih]; rfl
    · rw [ih]
      cases hp : cutL c p with
      | nil =>
        have := cutL_len c p
        rw [hp] at this
        simp at this
      | cons h t => rfl
theorem pathL_pre {p r : List UInt8} (h : pathL (p ++ 47 :: r) = true) : pathL p = true := by
  unfold pathL at h ⊢
  rw [cutL_app, List.all_append, List.length_append] at h
  simp only [Bool.and_eq_true, decide_eq_true_eq] at h ⊢
  exact ⟨by omega, h.2.1⟩
/-- at a path, or below it, as bytes -/
theorem isAt_iff {q p : ByteArray} : isAtB q p = true ↔ ∃ r, p.data.toList = q.data.toList ++ r ∧ (r = [] ∨ ∃ r', r = 47 :: r') := by
  unfold isAtB
  rw [Bool.or_eq_true, decide_eq_true_eq]
  constructor
  · rintro (rfl | h)
    · exact ⟨[], by simp, .inl rfl⟩
    · unfold inB pfxB at h
      obtain ⟨r, hr⟩ := List.isPrefixOf_iff_prefix.1 h
      rw [append_list] at hr
      exact ⟨47 :: r, by rw [← hr]; simp, .inr ⟨r, rfl⟩⟩
  · rintro ⟨r, h1, rfl | ⟨r', rfl⟩⟩
    · exact .inl (ba_ext (by rw [h1, List.append_nil]))
    · right
      unfold inB pfxB
      rw [List.isPrefixOf_iff_prefix, append_list]
      exact ⟨r', by rw [h1]; simp⟩
theorem extract_drop (s : ByteArray) (k : Nat) : (s.extract k s.size).data.toList = s.data.toList.drop k := by
  rw [ByteArray.data_extract]
  simp only [Array.toList_extract]
  rw [List.extract_eq_take_drop]
  have : s.size - k = (s.data.toList.drop k).length := by simp
  rw [this, List.take_length]
theorem mvP_list {q d p : ByteArray} {r : List UInt8} (h : p.data.toList = q.data.toList ++ r) : (mvP q d p).data.toList = d.data.toList ++ r := by
  unfold mvP
  rw [append_list, extract_drop, h]
  congr 1
  exact List.drop_left' (by simp)
theorem isAt_mv {q d p : ByteArray} (h : isAtB q p = true) : isAtB d (mvP q d p) = true := by
  obtain ⟨r, h1, h2⟩ := isAt_iff.1 h
  exact isAt_iff.2 ⟨r, mvP_list h1, h2⟩
theorem mv_back {q d p : ByteArray} (h : isAtB q p = true) : mvP d q (mvP q d p) = p := by
  obtain ⟨r, h1, h2⟩ := isAt_iff.1 h
  exact ba_ext (by rw [mvP_list (mvP_list h1), h1])
theorem isAt_path {q p : ByteArray} (h : isAtB q p = true) (hp : pathB p = true) : pathB q = true := by
  obtain ⟨r, h1, rfl | ⟨r', rfl⟩⟩ := isAt_iff.1 h
  · have : p = q := ba_ext (by rw [h1, List.append_nil])
    rw [← this]; exact hp
  · unfold pathB at hp ⊢
    rw [h1] at hp
    exact pathL_pre hp
theorem mem_set {b : List File} (hb : AscF b) (f g : File) : g ∈ setT b f ↔ g = f ∨ (g ∈ b ∧ ¬ g.path = f.path) := by
  obtain ⟨A, M, B, h1, h2, h3, h4, h5⟩ := tset_split f hb
  rw [h2, h1]
  have hne : ∀ {a b : ByteArray}, lessB a b = true → ¬ a = b := fun h e => by rw [e, lessB_irr] at h; cases h
  constructor
  · intro h
    rcases List.mem_append.1 h with h | h
    · exact .inr ⟨List.mem_append.2 (.inl h), hne (h3 g h)⟩
    · rcases List.mem_cons.1 h with h | h
      · exact .inl h
      · exact .inr ⟨List.mem_append.2 (.inr (List.mem_append.2 (.inr h))), fun e => hne (h4 g h) e.symm⟩
  · rintro (rfl | ⟨h, hn⟩)
    · exact List.mem_append.2 (.inr (List.mem_cons_self ..))
    · rcases List.mem_append.1 h with h | h
      · exact List.mem_append.2 (.inl h)
      · rcases List.mem_append.1 h with h | h
        · rcases h5 with rfl | ⟨m, rfl, hm⟩
          · cases h
          · rw [List.mem_singleton.1 h] at hn
            exact absurd hm hn
        · exact List.mem_append.2 (.inr (List.mem_cons_of_mem _ h))
theorem set_free {b : List File} (hb : AscF b) {f : File} (h : (setT b f).length = b.length + 1) : ∀ g, g ∈ b → ¬ g.path = f.path := by
  obtain ⟨A, M, B, h1, h2, h3, h4, h5⟩ := tset_split f hb
  have hne : ∀ {a b : ByteArray}, lessB a b = true → ¬ a = b := fun h e => by rw [e, lessB_irr] at h; cases h
  rcases h5 with rfl | ⟨m, rfl, hm⟩
  · intro g hg
    rw [h1, List.nil_append] at hg
    rcases List.mem_append.1 hg with hg | hg
    · exact hne (h3 g hg)
    · exact fun e => hne (h4 g hg) e.symm
  · rw [h2, h1] at h
    simp at h
/-- a chain of files set each at a path of its own -/
theorem movG_free {q d : ByteArray} : ∀ {r b : List File}, AscF b → (movG q d b r).length = b.length + (r.filter fun f => isAtB q f.path).length → ∀ g, g ∈ movG q d b r ↔ g ∈ b ∨ ∃ f, f ∈ r ∧ isAtB q f.path = true ∧ g = mvF q d f
  | [], b, _, _, g => by
    show g ∈ b ↔ _
    constructor
    · exact fun h => .inl h
    · rintro (h | ⟨f, hf, _⟩)
      · exact h
      · cases hf
  | f :: r, b, hb, hl, g => by
    cases hp : isAtB q f.path with
    | false =>
      have e : movG q d b (f :: r) = movG q d b r := by rw [movG, if_neg (by rw [hp]; simp)]
      rw [e] at hl ⊢
      rw [List.filter_cons_of_neg (by rw [hp]; simp)] at hl
      rw [movG_free hb hl g]
      constructor
      · rintro (h | ⟨f', h1, h2, h3⟩)
        · exact .inl h
        · exact .inr ⟨f', List.mem_cons_of_mem _ h1, h2, h3⟩
      · rintro (h | ⟨f', h1, h2, h3⟩)
        · exact .inl h
        · rcases List.mem_cons.1 h1 with rfl | h1
          · rw [hp] at h2; cases h2
          · exact .inr ⟨f', h1, h2, h3⟩
    | true =>
      have e : movG q d b (f :: r) = movG q d (setT b (mvF q d f)) r := by rw [movG, if_pos hp]
      rw [e] at hl ⊢
      rw [List.filter_cons_of_pos (by exact hp), List.length_cons] at hl
      have h2 := movG_len q d r (setT b (mvF q d f))
      have h3 := setT_len b (mvF q d f)
      have hfr := set_free hb (f := mvF q d f) (by omega)
      rw [movG_free (asc_set hb _) (by omega) g, mem_set hb]
      constructor
      · rintro ((h | ⟨h, _⟩) | ⟨f', h1, h4, h5⟩)
        · exact .inr ⟨f, List.mem_cons_self .., hp, h⟩
        · exact .inl h
        · exact .inr ⟨f', List.mem_cons_of_mem _ h1, h4, h5⟩
      · rintro (h | ⟨f', h1, h4, h5⟩)
        · exact .inl (.inr ⟨h, hfr g h⟩)
        · rcases List.mem_cons.1 h1 with rfl | h1
          · exact .inl (.inl h5)
          · exact .inr ⟨f', h1, h4, h5⟩
/-- a chain of files that are all of one tree -/
theorem movG_in {q d : ByteArray} {t : List File} (ht : DistF t) : ∀ {r b : List File}, AscF b → (∀ g, g ∈ b → g ∈ t) → (∀ f, f ∈ r → isAtB q f.path = true → mvF q d f ∈ t) → AscF (movG q d b r) ∧ ∀ g, g ∈ movG q d b r ↔ g ∈ b ∨ ∃ f, f ∈ r ∧ isAtB q f.path = true ∧ g = mvF q d f
  | [], b, hb, _, _ => ⟨hb, fun g => by
    show g ∈ b ↔ _
    constructor
    · exact fun h => .inl h
    · rintro (h | ⟨f, hf, _⟩)
      · exact h
      · cases hf⟩
  | f :: r, b, hb, hbt, hr => by
    cases hp : isAtB q f.path with
    | false =>
      have e : movG q d b (f :: r) = movG q d b r := by rw [movG, if_neg (by rw [hp]; simp)]
      obtain ⟨i1, i2⟩ := movG_in ht hb hbt (fun f' h' => hr f' (List.mem_cons_of_mem _ h')) (r := r) (q := q) (d := d)
      rw [e]
      refine ⟨i1, fun g => ?_⟩
      rw [i2 g]
      constructor
      · rintro (h | ⟨f', h1, h2, h3⟩)
        · exact .inl h
        · exact .inr ⟨f', List.mem_cons_of_mem _ h1, h2, h3⟩
      · rintro (h | ⟨f', h1, h2, h3⟩)
        · exact .inl h
        · rcases List.mem_cons.1 h1 with rfl | h1
          · rw [hp] at h2; cases h2
          · exact .inr ⟨f', h1, h2, h3⟩
    | true =>
      have e : movG q d b (f :: r) = movG q d (setT b (mvF q d f)) r := by rw [movG, if_pos hp]
      have hft := hr f (List.mem_cons_self ..) hp
      have hm : ∀ g, g ∈ setT b (mvF q d f) ↔ g = mvF q d f ∨ g ∈ b := fun g => by
        rw [mem_set hb]
        constructor
        · rintro (h | h)
          · exact .inl h
          · exact .inr h.1
        · rintro (h | h)
          · exact .inl h
          · by_cases e2 : g.path = (mvF q d f).path
            · have h1 := getT_of ht (hbt g h)
              have h2 := getT_of ht hft
              rw [e2, h2] at h1
              injection h1 with h1
              exact .inl ((eq_file _ _).2 ⟨e2, h1.symm⟩)
            · exact .inr ⟨h, e2⟩
      obtain ⟨i1, i2⟩ := movG_in ht (asc_set hb (mvF q d f)) (fun g hg => by
        rcases (hm g).1 hg with rfl | hg
        · exact hft
        · exact hbt g hg) (fun f' h' => hr f' (List.mem_cons_of_mem _ h')) (r := r) (q := q) (d := d)
      rw [e]
      refine ⟨i1, fun g => ?_⟩
      rw [i2 g, hm g]
      constructor
      · rintro ((h | h) | ⟨f', h1, h4, h5⟩)
        · exact .inr ⟨f, List.mem_cons_self .., hp, h⟩
        · exact .inl h
        · exact .inr ⟨f', List.mem_cons_of_mem _ h1, h4, h5⟩
      · rintro (h | ⟨f', h1, h4, h5⟩)
        · exact .inl (.inr h)
        · rcases List.mem_cons.1 h1 with rfl | h1
          · exact .inl (.inl h5)
          · exact .inr ⟨f', h1, h4, h5⟩
/-- in order, and of the same files -/
theorem asc_ext : ∀ {a b : List File}, AscF a → AscF b → (∀ g, g ∈ a ↔ g ∈ b) → a = b
  | [], [], _, _, _ => rfl
  | [], g :: b, _, _, h => absurd ((h g).2 (List.mem_cons_self ..)) (by simp)
  | g :: a, [], _, _, h => absurd ((h g).1 (List.mem_cons_self ..)) (by simp)
  | f :: a, g :: b, ha, hb, h => by
    obtain ⟨a1, a2⟩ := List.pairwise_cons.1 ha
    obtain ⟨b1, b2⟩ := List.pairwise_cons.1 hb
    have hfg : f = g := by
      rcases List.mem_cons.1 ((h f).1 (List.mem_cons_self ..)) with e | e
      · exact e
      · rcases List.mem_cons.1 ((h g).2 (List.mem_cons_self ..)) with e' | e'
        · exact e'.symm
        · have h1 := b1 f e
          have h2 := a1 g e'
          have h3 := lessB_asymm h1
          rw [h2] at h3
          cases h3
    subst hfg
    have hir : ∀ {l : List File}, (∀ x, x ∈ l → lessB f.path x.path = true) → f ∉ l := fun hl hm => by
      have := hl f hm
      rw [lessB_irr] at this
      cases this
    have : a = b := asc_ext a2 b2 fun x => by
      constructor
      · intro hx
        rcases List.mem_cons.1 ((h x).1 (List.mem_cons_of_mem _ hx)) with rfl | hx'
        · exact absurd hx (hir a1)
        · exact hx'
      · intro hx
        rcases List.mem_cons.1 ((h x).2 (List.mem_cons_of_mem _ hx)) with rfl | hx'
        · exact absurd hx (hir b1)
        · exact hx'
    rw [this]
/-- what a move that went well gives -/
theorem move_law {t x : List File} {q d : ByteArray} (hT : treeB t = true) (hb : moveB t q d = true) (hx : treeMove t q d = x) :
    treeB x = true ∧ x.length = t.length ∧ 0 < (treeUnder t q).length ∧
    (∀ i (h : i < (treeUnder t q).length), ∃ tx, treeGet t (treeUnder t q)[i] = some tx ∧ treeGet x (mvP q d (treeUnder t q)[i]) = some tx ∧ q.size ≤ (treeUnder t q)[i].size ∧ ∃ f, f ∈ t ∧ f.path = (treeUnder t q)[i]) ∧
    (∀ f, f ∈ x → ∃ g, g ∈ t ∧ (f = g ∨ (isAtB q g.path = true ∧ f = mvF q d g))) ∧
    (treeUnder t d = [] → moveB x d q = true ∧ treeMove x d q = t) := by
  have hb0 := hb
  unfold moveB at hb0
  simp only [Bool.and_eq_true, decide_eq_true_eq] at hb0
  obtain ⟨_, hlt, hpd, hTm, hlen⟩ := hb0
  have ex : x = movedT t q d := by rw [← hx, move_ok hT, if_pos hb]
  subst ex
  have hparts := drop_parts q t
  have hD := drop_asc (asc_tree hT) q
  have hmem := movG_free (q := q) (d := d) (r := t) (b := dropT t q) hD (by
    show (movedT t q d).length = _
    rw [hlen, hparts])
  have hDx := dist_tree hTm
  have hDt := dist_tree hT
  have hget : ∀ f, f ∈ t → isAtB q f.path = true → treeGet (movedT t q d) (mvP q d f.path) = some f.text := fun f hf hp => by
    rw [treeGet_ok hTm]
    exact getT_of hDx (f := mvF q d f) ((hmem _).2 (.inr ⟨f, hf, hp, rfl⟩))
  refine ⟨hTm, hlen, ?_, ?_, ?_, ?_⟩
  · rw [treeUnder_ok hT]
    unfold pathsU
    rw [List.length_map]
    omega
  · rw [treeUnder_ok hT]
    intro i h
    have hm : (pathsU q t)[i] ∈ pathsU q t := List.getElem_mem h
    obtain ⟨f, hf, hfp⟩ := List.mem_map.1 hm
    obtain ⟨hf1, hf2⟩ := List.mem_filter.1 hf
    rw [← hfp]
    exact ⟨f.text, by rw [treeGet_ok hT]; exact getT_of hDt hf1, hget f hf1 hf2, isAt_size hf2, f, hf1, rfl⟩
  · intro f hf
    rcases (hmem f).1 hf with h | ⟨g, hg, hp, rfl⟩
    · exact ⟨f, (List.mem_filter.1 h).1, .inl rfl⟩
    · exact ⟨g, hg, .inr ⟨hp, rfl⟩⟩
  · intro hU
    rw [treeUnder_ok hT] at hU
    have hno : ∀ f, f ∈ t → isAtB d f.path = false := fun f hf => by
      cases hp : isAtB d f.path with
      | false => rfl
      | true =>
        have : f.path ∈ pathsU d t := List.mem_map.2 ⟨f, List.mem_filter.2 ⟨hf, hp⟩, rfl⟩
        rw [hU] at this
        cases this
    have hAx := asc_tree hTm
    have hdrop : dropT (movedT t q d) d = dropT t q := by
      refine asc_ext (drop_asc hAx d) hD fun g => ?_
      unfold dropT
      rw [List.mem_filter, List.mem_filter]
      constructor
      · rintro ⟨h1, h2⟩
        rcases (hmem g).1 h1 with h | ⟨f, hf, hp, rfl⟩
        · exact List.mem_filter.1 h
        · rw [show (mvF q d f).path = mvP q d f.path from rfl, isAt_mv hp] at h2
          cases h2
      · rintro ⟨h1, h2⟩
        exact ⟨(hmem g).2 (.inl (List.mem_filter.2 ⟨h1, h2⟩)), by rw [hno g h1]; rfl⟩
    have hbk : ∀ g, g ∈ movedT t q d → isAtB d g.path = true → ∃ f, f ∈ t ∧ isAtB q f.path = true ∧ mvF d q g = f := fun g hg hp => by
      rcases (hmem g).1 hg with h | ⟨f, hf, hpf, rfl⟩
      · rw [hno g (List.mem_filter.1 h).1] at hp; cases hp
      · refine ⟨f, hf, hpf, (eq_file _ _).2 ⟨?_, rfl⟩⟩
        show mvP d q (mvP q d f.path) = f.path
        exact mv_back hpf
    obtain ⟨i1, i2⟩ := movG_in (q := d) (d := q) hDt (r := movedT t q d) (b := dropT t q) hD (fun g hg => (List.mem_filter.1 hg).1) (fun g hg hp => by
      obtain ⟨f, hf, _, e⟩ := hbk g hg hp
      rw [e]; exact hf)
    have hback : movedT (movedT t q d) d q = t := by
      refine asc_ext (by unfold movedT at i1 ⊢; rw [show dropT (movG q d (dropT t q) t) d = dropT t q from hdrop]; exact i1) (asc_tree hT) fun g => ?_
      have : g ∈ movedT (movedT t q d) d q ↔ g ∈ movG d q (dropT t q) (movedT t q d) := by
        unfold movedT
        rw [show dropT (movG q d (dropT t q) t) d = dropT t q from hdrop]
      rw [this, i2 g]
      constructor
      · rintro (h | ⟨f, hf, hp, rfl⟩)
        · exact (List.mem_filter.1 h).1
        · obtain ⟨f', hf', _, e⟩ := hbk f hf hp
          rw [e]; exact hf'
      · intro h
        cases hp : isAtB q g.path with
        | false => exact .inl (List.mem_filter.2 ⟨h, by rw [hp]; rfl⟩)
        | true => exact .inr ⟨mvF q d g, (hmem _).2 (.inr ⟨g, h, hp, rfl⟩), isAt_mv hp, (eq_file _ _).2 ⟨(mv_back hp).symm, rfl⟩⟩
    have hpq : pathB q = true := by
      have hpos : 0 < (t.filter fun f => isAtB q f.path).length := by omega
      obtain ⟨f, hf⟩ : ∃ f, f ∈ t.filter fun f => isAtB q f.path := ⟨_, List.getElem_mem hpos⟩
      obtain ⟨hf1, hf2⟩ := List.mem_filter.1 hf
      exact isAt_path hf2 (((tree_iff t).1 hT).2.1 f hf1).1
    have hmb : moveB (movedT t q d) d q = true := by
      rw [moveB_is hTm (by rw [hdrop, hlen]; exact hlt) hpq (by rw [hback, hlen]), hback]
      exact hT
    exact ⟨hmb, by rw [move_ok hTm, if_pos hmb, hback]⟩
end Go.Vc
