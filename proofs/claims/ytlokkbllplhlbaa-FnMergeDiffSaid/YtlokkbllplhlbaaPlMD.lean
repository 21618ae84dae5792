/-
  Plain law: what both sides made is no more than what each made. No program is in sight here.
-/
import Derived.Test.YtlokkbllplhlbaaPlMT
set_option linter.unusedVariables false
namespace Go.Vc

theorem lc_sub {s : List ByteArray} : ∀ {p q : List ByteArray}, s.Sublist p → s.Sublist q → s.length ≤ lc p q := by
  intro p q
  induction p, q using lc.induct generalizing s with
  | case1 b => intro h1 _; rw [List.sublist_nil.1 h1]; simp
  | case2 x r => intro _ h2; rw [List.sublist_nil.1 h2]; simp
  | case3 r y bs ih =>
    intro h1 h2
    rw [lc_eq _ _ rfl]
    cases h1 with
    | cons _ h1 =>
      cases h2 with
      | cons _ h2 => have := ih h1 h2; omega
      | cons_cons _ h2 =>
        rename_i s'
        have := ih (List.Sublist.trans (List.sublist_cons_self _ _) h1) h2
        simp; omega
    | cons_cons _ h1 =>
      rename_i s'
      have h2' : s'.Sublist bs := by
        cases h2 with
        | cons _ h2 => exact List.Sublist.trans (List.sublist_cons_self _ _) h2
        | cons_cons _ h2 => exact h2
      have := ih h1 h2'
      simp; omega
  | case4 x r y bs h ih1 ih2 =>
    intro h1 h2
    rw [lc_ne _ _ h]
    cases h1 with
    | cons _ h1 => have := ih1 h1 h2; omega
    | cons_cons _ h1 =>
      cases h2 with
      | cons _ h2 => have := ih2 (List.Sublist.cons_cons _ h1) h2; omega
      | cons_cons _ h2 => exact absurd rfl h
theorem lc_has (p q : List ByteArray) : ∃ s : List ByteArray, s.Sublist p ∧ s.Sublist q ∧ s.length = lc p q := by
  induction p, q using lc.induct with
  | case1 b => exact ⟨[], List.nil_sublist _, List.nil_sublist _, by rw [lc_nil]; rfl⟩
  | case2 x r => exact ⟨[], List.nil_sublist _, List.nil_sublist _, by rw [lc_nil_r]; rfl⟩
  | case3 r y bs ih =>
    obtain ⟨s, h1, h2, h3⟩ := ih
    exact ⟨y :: s, h1.cons_cons _, h2.cons_cons _, by rw [lc_eq _ _ rfl, List.length_cons, h3]⟩
  | case4 x r y bs h ih1 ih2 =>
    obtain ⟨s1, h1, h2, h3⟩ := ih1
    obtain ⟨s2, k1, k2, k3⟩ := ih2
    rw [lc_ne _ _ h]
    by_cases hm : lc r (y :: bs) ≤ lc (x :: r) bs
    · exact ⟨s2, k1, k2.cons _, by omega⟩
    · exact ⟨s1, h1.cons _, h2, by omega⟩
theorem lc_mono {p q p' q' : List ByteArray} (h1 : p.Sublist p') (h2 : q.Sublist q') : lc p q ≤ lc p' q' := by
  obtain ⟨s, k1, k2, k3⟩ := lc_has p q
  rw [← k3]
  exact lc_sub (k1.trans h1) (k2.trans h2)
theorem lc_app (p1 q1 p2 q2 : List ByteArray) : lc p1 q1 + lc p2 q2 ≤ lc (p1 ++ p2) (q1 ++ q2) := by
  obtain ⟨s, k1, k2, k3⟩ := lc_has p1 q1
  obtain ⟨t, l1, l2, l3⟩ := lc_has p2 q2
  rw [← k3, ← l3, ← List.length_append]
  exact lc_sub (k1.append l1) (k2.append l2)
theorem lc_single (x : ByteArray) : lc [x] [x] = 1 := by rw [lc_eq _ _ rfl, lc_nil]

/-- how many are no -1 -/
def cnt (ms : List Int) : Nat := ms.countP fun m => decide (0 ≤ m)
theorem cnt_neg (ms : List Int) : cnt (-1 :: ms) = cnt ms := by simp [cnt]
theorem cnt_nat (k : Nat) (ms : List Int) : cnt ((k : Int) :: ms) = cnt ms + 1 := by simp [cnt]
theorem mt_cnt (b r : List ByteArray) (j : Nat) : cnt (mt b r j) = lc r (b.drop j) := by
  induction r, j using mt.induct (b := b) with
  | case1 j => rw [mt_nil, lc_nil]; rfl
  | case2 j r hj ih => rw [mt, dif_pos hj, if_pos rfl, cnt_nat, ih, drop_cons b j hj, lc_eq _ _ rfl]
  | case3 j x r hj e h ih =>
    rw [mt, dif_pos hj, if_neg e, if_pos h, cnt_neg, ih]
    rw [drop_cons b j hj] at h ⊢
    rw [lc_ne _ _ e]; omega
  | case4 j x r hj e h ih =>
    rw [mt, dif_pos hj, if_neg e, if_neg h, ih]
    rw [drop_cons b j hj] at h ⊢
    rw [lc_ne _ _ e]; omega
  | case5 j x r hj ih => rw [mt, dif_neg hj, cnt_neg, ih, drop_nil b j hj, lc_nil_r, lc_nil_r]
theorem pairs_cnt (a b : List ByteArray) : cnt (pairsT a b) = lc a b + 1 := by
  unfold pairsT matchT
  have h := mt_cnt b a 0
  unfold cnt at h ⊢
  rw [List.countP_append, h, List.drop_zero]
  simp

theorem cutF_le2 {a : List ByteArray} {f j k : Nat} (h : j ≤ k) : (cutF a f j).Sublist (cutF a f k) := by
  unfold cutF
  exact (List.take_prefix_take_left (by omega : j - f ≤ k - f)).sublist
theorem cutF_lenI {a : List ByteArray} {f i : Nat} (h1 : f ≤ i) (h2 : i ≤ a.length) : ((cutF a f i).length : Int) = i - f := by rw [cutF_len h1 h2]; omega
theorem drop_cut (a : List ByteArray) {f i : Nat} (h1 : f ≤ i) (h2 : i < a.length) : a.drop f = cutF a f i ++ ([a[i]] ++ a.drop (i + 1)) := by
  unfold cutF
  have e : a.drop i = a[i] :: a.drop (i + 1) := drop_cons a i h2
  conv => lhs; rw [← List.take_append_drop (i - f) (a.drop f), List.drop_drop, show f + (i - f) = i by omega, e]
  rfl
/-- how much two texts differ -/
def dist (a b : List ByteArray) : Int := (a.length : Int) + b.length - 2 * lc a b

theorem piece_dist {old one two new : List ByteArray} {ca cb : Nat} (h : pieceT old one two = some new) (ha : ca ≤ lc old one) (hb : cb ≤ lc old two) :
    dist old new ≤ (old.length + one.length - 2 * (ca : Int)) + (old.length + two.length - 2 * (cb : Int)) := by
  have h1 := lc_le old one
  have h2 := lc_le old two
  have hn : new = one ∨ new = two := by
    unfold pieceT at h
    split at h
    · exact .inr (Option.some.inj h).symm
    · split at h
      · exact .inl (Option.some.inj h).symm
      · cases h
  unfold dist
  rcases hn with rfl | rfl <;> omega

theorem mg_dist (o a b : List ByteArray) : ∀ (ps qs : List Int) (i fo fa fb po ja pb jb ca cb : Nat) (x : List ByteArray),
    okM o a ps i po ja → okM o b qs i pb jb → i ≤ o.length → fo ≤ i → fa ≤ ja → fb ≤ jb →
    ca ≤ lc (cutF o fo i) (cutF a fa ja) → cb ≤ lc (cutF o fo i) (cutF b fb jb) → mgT o a b ps qs i fo fa fb = some x →
    dist (o.drop fo) x ≤ (((o.length : Int) - fo) + (a.length - fa) - 2 * ((ca : Int) + cnt ps - 1)) + (((o.length : Int) - fo) + (b.length - fb) - 2 * ((cb : Int) + cnt qs - 1))
  | [], qs, i, fo, fa, fb, po, ja, pb, jb, ca, cb, x, h1, h2, hi, _, _, _, _, _, _ => by
    have := h1.1; omega
  | p :: ps, [], i, fo, fa, fb, po, ja, pb, jb, ca, cb, x, h1, h2, hi, _, _, _, _, _, _ => by
    have := h2.1; omega
  | p :: ps, q :: qs, i, fo, fa, fb, po, ja, pb, jb, ca, cb, x, h1, h2, hi, hfo, hfa, hfb, hca, hcb, hx => by
    rw [mgT] at hx
    rcases h1 with ⟨rfl, hin, h1⟩ | ⟨k, rfl, hk1, hk2, hk3, h1⟩
    · rw [if_pos (by omega)] at hx
      have e := cutF_snoc (a := o) hfo hin
      have hca' : ca ≤ lc (cutF o fo (i + 1)) (cutF a fa ja) := Nat.le_trans hca (lc_mono (by rw [e]; exact List.sublist_append_left _ _) (List.Sublist.refl _))
      rcases h2 with ⟨rfl, _, h2⟩ | ⟨l, rfl, hl1, hl2, hl3, h2⟩
      · have hcb' : cb ≤ lc (cutF o fo (i + 1)) (cutF b fb jb) := Nat.le_trans hcb (lc_mono (by rw [e]; exact List.sublist_append_left _ _) (List.Sublist.refl _))
        have ih := mg_dist o a b ps qs (i + 1) fo fa fb po ja pb jb ca cb x h1 h2 hin (by omega) hfa hfb hca' hcb' hx
        rw [cnt_neg, cnt_neg]; exact ih
      · rcases hl3 with ⟨hl4, hl5, hl6⟩ | ⟨hl4, _⟩
        · have hcb' : cb + 1 ≤ lc (cutF o fo (i + 1)) (cutF b fb (l + 1)) := by
            rw [e, cutF_snoc (a := b) (by omega) hl5, ← hl6]
            have h3 := lc_app (cutF o fo i) (cutF b fb l) [o[i]] [o[i]]
            rw [lc_single] at h3
            have h4 := lc_mono (List.Sublist.refl (cutF o fo i)) (cutF_le2 (a := b) (f := fb) hl1)
            omega
          have ih := mg_dist o a b ps qs (i + 1) fo fa fb po ja (i + 1) (l + 1) ca (cb + 1) x h1 h2 hin (by omega) hfa (by omega) hca' hcb' hx
          rw [cnt_neg, cnt_nat]
          refine Int.le_trans ih ?_
          omega
        · omega
    · rcases h2 with ⟨rfl, hin, h2⟩ | ⟨l, rfl, hl1, hl2, hl3, h2⟩
      · rw [if_pos (by omega)] at hx
        have e := cutF_snoc (a := o) hfo hin
        have hcb' : cb ≤ lc (cutF o fo (i + 1)) (cutF b fb jb) := Nat.le_trans hcb (lc_mono (by rw [e]; exact List.sublist_append_left _ _) (List.Sublist.refl _))
        rcases hk3 with ⟨hk4, hk5, hk6⟩ | ⟨hk4, _⟩
        · have hca' : ca + 1 ≤ lc (cutF o fo (i + 1)) (cutF a fa (k + 1)) := by
            rw [e, cutF_snoc (a := a) (by omega) hk5, ← hk6]
            have h3 := lc_app (cutF o fo i) (cutF a fa k) [o[i]] [o[i]]
            rw [lc_single] at h3
            have h4 := lc_mono (List.Sublist.refl (cutF o fo i)) (cutF_le2 (a := a) (f := fa) hk1)
            omega
          have ih := mg_dist o a b ps qs (i + 1) fo fa fb (i + 1) (k + 1) pb jb (ca + 1) cb x h1 h2 hin (by omega) (by omega) hfb hca' hcb' hx
          rw [cnt_neg, cnt_nat]
          refine Int.le_trans ih ?_
          omega
        · omega
      · rw [if_neg (by omega), Int.toNat_natCast, Int.toNat_natCast] at hx
        have ha1 : ca ≤ lc (cutF o fo i) (cutF a fa k) := Nat.le_trans hca (lc_mono (List.Sublist.refl _) (cutF_le2 hk1))
        have hb1 : cb ≤ lc (cutF o fo i) (cutF b fb l) := Nat.le_trans hcb (lc_mono (List.Sublist.refl _) (cutF_le2 hl1))
        cases hp : pieceT (cutF o fo i) (cutF a fa k) (cutF b fb l) with
        | none => rw [hp] at hx; cases hx
        | some new =>
          cases hr : mgT o a b ps qs (i + 1) (i + 1) (k + 1) (l + 1) with
          | none => rw [hp, hr] at hx; cases hx
          | some y =>
            rw [hp, hr] at hx
            have hx := (Option.some.inj hx).symm
            subst hx
            have hd := piece_dist hp ha1 hb1
            rw [cutF_lenI hfo hi, cutF_lenI (by omega) hk2, cutF_lenI (by omega) hl2] at hd
            rw [cnt_nat, cnt_nat]
            have hol := cutF_lenI (a := o) hfo hi
            by_cases hin : i < o.length
            · rcases hk3 with ⟨_, hk5, hk6⟩ | ⟨hk4, _⟩
              · rcases hl3 with ⟨_, hl5, hl6⟩ | ⟨hl4, _⟩
                · have ih := mg_dist o a b ps qs (i + 1) (i + 1) (k + 1) (l + 1) (i + 1) (k + 1) (i + 1) (l + 1) 0 0 y h1 h2 hin (Nat.le_refl _) (Nat.le_refl _) (Nat.le_refl _) (Nat.zero_le _) (Nat.zero_le _) hr
                  have e : oAt o i = [o[i]] := by rw [oAt, dif_pos hin]
                  have h3 := lc_app (cutF o fo i) new ([o[i]] ++ o.drop (i + 1)) ([o[i]] ++ y)
                  have h4 := lc_app [o[i]] [o[i]] (o.drop (i + 1)) y
                  rw [lc_single] at h4
                  unfold dist at ih hd ⊢
                  rw [drop_cut o hfo hin, e, List.append_assoc]
                  simp only [List.length_append, List.length_singleton, List.length_drop] at ih ⊢
                  omega
                · omega
              · omega
            · have hio : i = o.length := by omega
              subst hio
              obtain ⟨rfl⟩ : ps = [] := by
                cases ps with
                | nil => rfl
                | cons p ps =>
                  rcases h1 with ⟨_, h, _⟩ | ⟨_, _, _, _, h, _⟩
                  · omega
                  · rcases h with ⟨h, _⟩ | ⟨h, _⟩ <;> omega
              obtain ⟨rfl⟩ : qs = [] := by
                cases qs with
                | nil => rfl
                | cons p ps =>
                  rcases h2 with ⟨_, h, _⟩ | ⟨_, _, _, _, h, _⟩
                  · omega
                  · rcases h with ⟨h, _⟩ | ⟨h, _⟩ <;> omega
              rw [mgT_nilL] at hr
              obtain rfl := Option.some.inj hr
              have e : oAt o o.length = [] := by rw [oAt, dif_neg (by omega)]
              have e2 : cutF o fo o.length = o.drop fo := cutF_all (Nat.le_refl _)
              rw [e2] at hd hol
              have hk4 : k = a.length := by rcases hk3 with ⟨h, _⟩ | ⟨_, h⟩; omega; exact h
              have hl4 : l = b.length := by rcases hl3 with ⟨h, _⟩ | ⟨_, h⟩; omega; exact h
              subst hk4; subst hl4
              rw [e, List.append_nil, List.append_nil]
              have hc0 : cnt [] = 0 := rfl
              rw [hc0]
              refine Int.le_trans hd ?_
              omega
theorem merge_dist {o a b x : List ByteArray} (h : mergeX o a b = some x) : dist o x ≤ dist o a + dist o b := by
  have := mg_dist o a b (pairsT o a) (pairsT o b) 0 0 0 0 0 0 0 0 0 0 x (pairs_ok o a) (pairs_ok o b) (Nat.zero_le _) (Nat.le_refl _) (Nat.le_refl _) (Nat.le_refl _) (Nat.zero_le _) (Nat.zero_le _) h
  rw [pairs_cnt, pairs_cnt] at this
  simp only [List.drop_zero] at this
  unfold dist at this ⊢
  omega

/-- a text with itself -/
theorem mt_self (o : List ByteArray) : ∀ (n i : Nat), n = o.length - i → i ≤ o.length → mt o (o.drop i) i ++ [(o.length : Int)] = (List.range' i (n + 1)).map fun k : Nat => (k : Int)
  | 0, i, h, hi => by
    obtain rfl : i = o.length := by omega
    rw [List.drop_length, mt_nil]; rfl
  | n + 1, i, h, hi => by
    have hl : i < o.length := by omega
    rw [mt_next hl hl rfl, List.cons_append, mt_self o n (i + 1) (by omega) hl]
    rfl
theorem pairs_self (o : List ByteArray) : pairsT o o = (List.range' 0 (o.length + 1)).map fun k : Nat => (k : Int) := by
  have := mt_self o o.length 0 (by omega) (Nat.zero_le _)
  rw [List.drop_zero] at this
  exact this
theorem mg_back (o a : List ByteArray) : ∀ (ps : List Int) (i fo fa n : Nat), okM o a ps i fo fa → n = o.length + 1 - i → i ≤ o.length + 1 → fo ≤ i → mgT o a o ps ((List.range' i n).map fun k : Nat => (k : Int)) i fo fa fo = some (a.drop fa)
  | [], i, fo, fa, n, h, hn, hi, hf => by
    obtain ⟨h1, h2, h3⟩ := h
    rw [mgT_nilL, h3, List.drop_eq_nil_of_le (by omega)]
  | p :: ps, i, fo, fa, n, h, hn, hi, hf => by
    have hio : i ≤ o.length := by
      rcases h with ⟨_, h, _⟩ | ⟨_, _, _, _, h, _⟩
      · omega
      · rcases h with ⟨h, _⟩ | ⟨h, _⟩ <;> omega
    obtain ⟨m, rfl⟩ : ∃ m, n = m + 1 := ⟨n - 1, by omega⟩
    rw [List.range'_succ, List.map_cons, mgT]
    rcases h with ⟨rfl, hin, h⟩ | ⟨k, rfl, hk1, hk2, hk3, h⟩
    · rw [if_pos (by omega)]
      exact mg_back o a ps (i + 1) fo fa m h (by omega) (by omega) (by omega)
    · rw [if_neg (by omega), Int.toNat_natCast, Int.toNat_natCast, mg_back o a ps (i + 1) (i + 1) (k + 1) m h (by omega) (by omega) (Nat.le_refl _)]
      have hp : pieceT (cutF o fo i) (cutF a fa k) (cutF o fo i) = some (cutF a fa k) := by
        unfold pieceT
        split
        · rename_i h; rcases h with h | h <;> rw [h]
        · rw [if_pos rfl]
      rw [hp]
      simp only [Option.some.injEq]
      rcases hk3 with ⟨h3, h4, h5⟩ | ⟨h3, h4⟩
      · rw [oAt, dif_pos h3, h5, List.append_assoc, ← drop_cut a hk1 h4]
      · subst h4
        rw [oAt, dif_neg (by omega), cutF_all (Nat.le_refl _), List.drop_eq_nil_of_le (by omega : a.length ≤ a.length + 1)]
        simp
theorem merge_back {o a : List ByteArray} (ho : textB o = true) (ha : textB a = true) : mText o a o = (a, true) := by
  rw [mText_merge, if_pos (three_iff.2 ⟨ho, ha, ho⟩), mergeX, pairs_self]
  rw [mg_back o a (pairsT o a) 0 0 0 _ (pairs_ok o a) (by omega) (Nat.zero_le _) (Nat.le_refl _), List.drop_zero, pFin, if_pos ha]
/-- the law -/
theorem merge_less {o a b x : List ByteArray} (h : mText o a b = (x, true)) : dist o x ≤ dist o a + dist o b := by
  obtain ⟨h1, h2, h3⟩ := mText_true h
  rw [merge_text] at h2
  exact merge_dist h2
end Go.Vc
