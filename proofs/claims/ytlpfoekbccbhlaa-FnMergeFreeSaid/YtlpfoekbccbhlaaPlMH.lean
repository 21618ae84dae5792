/-
  Plain law: what two sides made apart, one behind the other, is their merge. No program is in sight here.
-/
import Derived.Test.YtlpfoekbccbhlaaPlMG
set_option linter.unusedVariables false
namespace Go.Vc
theorem fold_none {p : Int} : ∀ {a : List Hunk} (acc : Int), (∀ x, x ∈ a → ¬ x.at_ < p) → a.foldl (fun (at_ : Int) x => if x.at_ < p then at_ + x.more.length - x.less.length else at_) acc = acc
  | [], _, _ => rfl
  | x :: r, acc, h => by
    rw [List.foldl_cons, if_neg (h x (List.mem_cons_self ..))]
    exact fold_none acc fun y hy => h y (List.mem_cons_of_mem _ hy)
theorem fold_rn (t : List ByteArray) {p : Nat} (hp : p ≤ t.length) : ∀ (d : List Hunk) (lo fr : Nat) (acc : Int), chainH lo d → fr ≤ lo → fr ≤ p → (∀ h, h ∈ d → h.at_ + h.less.length < (p : Int) ∨ (p : Int) < h.at_) →
    d.foldl (fun (at_ : Int) x => if x.at_ < (p : Int) then at_ + x.more.length - x.less.length else at_) acc = acc + ((rn t (fun j => [] ++ insH d j) (fun j => false || delH d j) (p - fr) fr).length : Int) - ((p - fr : Nat) : Int)
  | [], lo, fr, acc, _, _, hf, _ => by
    have e : fr + (p - fr) = p := by omega
    have := cutF_len (a := t) hf hp
    unfold rn
    rw [rn0_clean (ins := fun j => [] ++ insH [] j) (del := fun j => false || delH [] j) (p - fr) fr (fun j _ _ => ⟨rfl, rfl⟩), e, List.length_append, this]
    simp [insH_nil]
  | h :: r, lo, fr, acc, hc, hlo, hf, hd => by
    obtain ⟨c1, c2, c3⟩ := hc
    have c0 := ((hunkB_iff h).1 c2).1
    have hh := hd h (List.mem_cons_self ..)
    by_cases hlt : h.at_ < (p : Int)
    · have hend : h.at_ + h.less.length < (p : Int) := by omega
      have hpe : h.at_ = (h.at_.toNat : Int) := by omega
      have k := rn_cons (t := t) (ia := fun _ => []) (da := fun _ => false) (r := r) (m := p - (h.at_.toNat + h.less.length)) hpe (by omega : fr ≤ h.at_.toNat) (fun x hx => by have := (chain_mem c3 x hx).1; omega) (fun _ _ _ => rfl)
      have e : h.at_.toNat + h.less.length - fr + (p - (h.at_.toNat + h.less.length)) = p - fr := by omega
      have e2 : fr + (h.at_.toNat - fr) = h.at_.toNat := by omega
      have hcl := cutF_len (a := t) (f := fr) (i := h.at_.toNat) (by omega) (by omega)
      rw [e, rn0_clean (ins := fun _ => []) (del := fun _ => false) (h.at_.toNat - fr) fr (fun j _ _ => ⟨rfl, rfl⟩), e2] at k
      rw [k, List.foldl_cons, if_pos hlt, fold_rn t hp r _ (h.at_.toNat + h.less.length) _ c3 (by omega) (by omega) fun g hg => hd g (List.mem_cons_of_mem _ hg)]
      simp only [List.length_append, hcl]
      omega
    · have hall : ∀ x, x ∈ h :: r → (p : Int) < x.at_ := fun x hx => by
        rcases List.mem_cons.1 hx with rfl | hx
        · have := hd x (List.mem_cons_self ..); omega
        · have := (chain_mem c3 x hx).1
          omega
      have e : fr + (p - fr) = p := by omega
      have hcl := cutF_len (a := t) hf hp
      rw [fold_none _ fun x hx => by have := hall x hx; omega]
      have e3 : rn t (fun j => [] ++ insH (h :: r) j) (fun j => false || delH (h :: r) j) (p - fr) fr = cutF t fr p := by
        have hn1 : ∀ j : Nat, j ≤ p → insH (h :: r) j = [] := fun j hj => insH_none fun x hx => by have := hall x hx; omega
        have hn2 : ∀ j : Nat, j ≤ p → delH (h :: r) j = false := fun j hj => delH_none fun x hx => by have := hall x hx; omega
        unfold rn
        rw [rn0_clean (ins := fun j => [] ++ insH (h :: r) j) (del := fun j => false || delH (h :: r) j) (p - fr) fr (fun j j1 j2 => ⟨by rw [hn1 j (by omega)]; rfl, by rw [hn2 j (by omega)]; rfl⟩), e]
        show cutF t fr p ++ ([] ++ insH (h :: r) p) = _
        rw [hn1 p (Nat.le_refl _)]; simp
      rw [e3, hcl]
      omega
theorem shift_pos {t : List ByteArray} {a : List Hunk} (ha : chainH 0 a) {y : Hunk} {p : Nat} (hy : y.at_ = (p : Int)) (hp : p ≤ t.length) (hap : ∀ x, x ∈ a → x.at_ + x.less.length < y.at_ ∨ y.at_ + y.less.length < x.at_) :
    shiftAt a y = ((rn t (insH a) (delH a) p 0).length : Int) := by
  have := fold_rn t hp a 0 0 (p : Int) ha (Nat.le_refl _) (Nat.zero_le _) fun h hh => by have := hap h hh; omega
  unfold shiftAt
  rw [hy, this]
  show (p : Int) + ((rn t (insH a) (delH a) (p - 0) 0).length : Int) - ((p - 0 : Nat) : Int) = _
  rw [Nat.sub_zero]
  omega
theorem shift_do {t x : List ByteArray} {a : List Hunk} (ha : chainH 0 a) (hx : x = rn t (insH a) (delH a) t.length 0) : ∀ (b : List Hunk) (lo fr fr' lo' : Nat) (out : List ByteArray), chainH lo b →
    (∀ y, y ∈ b → ∀ h, h ∈ a → h.at_ + h.less.length < y.at_ ∨ y.at_ + y.less.length < h.at_) → (∀ y, y ∈ b → y.at_.toNat + y.less.length ≤ t.length ∧ (t.drop y.at_.toNat).take y.less.length = y.less) →
    fr' ≤ x.length → fr ≤ t.length → x.drop fr' = rn t (insH a) (delH a) (t.length - fr) fr → ((lo = fr ∧ lo' = fr') ∨ (lo = fr + 1 ∧ lo' = fr' + 1 ∧ delH a fr = false)) →
    doF x (shiftF a b) fr' out = some (out ++ rn t (fun j => insH a j ++ insH b j) (fun j => delH a j || delH b j) (t.length - fr) fr) ∧ (x.length ≤ 10 → chainH lo' (shiftF a b))
  | [], lo, fr, fr', lo', out, _, _, _, _, _, hd, _ => by
    refine ⟨?_, fun _ => trivial⟩
    rw [shiftF, List.map_nil, doF, hd]
    congr 2
    exact rn_congr _ _ (fun j _ _ => by rw [insH_nil, List.append_nil]) (fun j _ _ => by rw [delH_nil, Bool.or_false])
  | y :: r, lo, fr, fr', lo', out, hc, hap, hfit, hfx, hft, hd, hlo => by
    obtain ⟨c1, c2, c3⟩ := hc
    have c0 := ((hunkB_iff y).1 c2)
    have hya := hap y (List.mem_cons_self ..)
    obtain ⟨f1, f2⟩ := hfit y (List.mem_cons_self ..)
    obtain ⟨p, hp⟩ : ∃ p : Nat, y.at_ = (p : Int) := ⟨y.at_.toNat, by omega⟩
    obtain ⟨L, hL⟩ : ∃ L, y.less.length = L := ⟨_, rfl⟩
    have hpt : y.at_.toNat = p := by omega
    have hfr : fr ≤ p := by omega
    rw [hpt, hL] at f1 f2 c3
    have hcl : ∀ j, p ≤ j → j ≤ p + L → insH a j = [] ∧ delH a j = false := fun j j1 j2 =>
      ⟨insH_none fun z hz => by have := hya z hz; omega, delH_none fun z hz => by have := hya z hz; omega⟩
    have hpos := shift_pos (t := t) ha hp (by omega) hya
    obtain ⟨p', hp'⟩ : ∃ p', (rn t (insH a) (delH a) p 0).length = p' := ⟨_, rfl⟩
    rw [hp'] at hpos
    -- the text behind a, parted at the piece
    have eR : rn t (insH a) (delH a) p 0 = rn0 t (insH a) (delH a) p 0 := by
      unfold rn; rw [Nat.zero_add, (hcl p (Nat.le_refl _) (by omega)).1, List.append_nil]
    have s1 : x = rn0 t (insH a) (delH a) p 0 ++ rn t (insH a) (delH a) (t.length - p) p := by
      have := rn_add (t := t) (ins := insH a) (del := delH a) p (t.length - p) 0
      rw [Nat.zero_add, show p + (t.length - p) = t.length from by omega] at this
      rw [hx, this]
    rw [eR] at hp'
    have s2 : x.drop p' = rn t (insH a) (delH a) (t.length - p) p := by rw [s1, ← hp', List.drop_left]
    have s3 : rn t (insH a) (delH a) (t.length - p) p = y.less ++ rn t (insH a) (delH a) (t.length - (p + L)) (p + L) := by
      have := rn_add (t := t) (ins := insH a) (del := delH a) L (t.length - (p + L)) p
      rw [show L + (t.length - (p + L)) = t.length - p from by omega, rn0_clean _ _ fun j j1 j2 => hcl j j1 (by omega)] at this
      rw [this]
      congr 1
      unfold cutF
      rw [show p + L - p = L from by omega]
      exact f2
    have s4 : x.drop fr' = rn0 t (insH a) (delH a) (p - fr) fr ++ rn t (insH a) (delH a) (t.length - p) p := by
      have := rn_add (t := t) (ins := insH a) (del := delH a) (p - fr) (t.length - p) fr
      rw [show p - fr + (t.length - p) = t.length - fr from by omega, show fr + (p - fr) = p from by omega] at this
      rw [hd, this]
    obtain ⟨q, hq⟩ : ∃ q, (rn0 t (insH a) (delH a) (p - fr) fr).length = q := ⟨_, rfl⟩
    have l1 : x.length = p' + (rn t (insH a) (delH a) (t.length - p) p).length := by
      have := congrArg List.length s1
      rw [List.length_append, hp'] at this
      exact this
    have l2 : x.length - fr' = q + (rn t (insH a) (delH a) (t.length - p) p).length := by
      have := congrArg List.length s4
      rw [List.length_append, hq, List.length_drop] at this
      exact this
    have l3 : (rn t (insH a) (delH a) (t.length - p) p).length = L + (rn t (insH a) (delH a) (t.length - (p + L)) (p + L)).length := by
      rw [s3, List.length_append, hL]
    have hpq : p' = fr' + q := by omega
    have s5 : x.drop (p' + L) = rn t (insH a) (delH a) (t.length - (p + L)) (p + L) := by
      rw [← List.drop_drop, s2, s3, ← hL, List.drop_left]
    have s6 : cutF x fr' p' = rn0 t (insH a) (delH a) (p - fr) fr := by
      unfold cutF
      rw [s4, show p' - fr' = q from by omega, ← hq, List.take_left]
    obtain ⟨k1, k2⟩ := shift_do ha hx r (p + L + 1) (p + L) (p' + L) (p' + L + 1) (out ++ cutF x fr' p' ++ y.more) c3 (fun z hz => hap z (List.mem_cons_of_mem _ hz)) (fun z hz => hfit z (List.mem_cons_of_mem _ hz)) (by omega) f1 s5 (.inr ⟨rfl, rfl, (hcl _ (by omega) (Nat.le_refl _)).2⟩)
    have eS : shiftF a (y :: r) = ⟨shiftAt a y, y.less, y.more⟩ :: shiftF a r := rfl
    rw [eS]
    constructor
    · rw [doF]
      simp only [hpos, Int.toNat_natCast, hL]
      rw [if_neg (by omega), if_pos (by rw [s2, s3, ← hL, List.take_left]), k1]
      have k := rn_cons (t := t) (ia := insH a) (da := delH a) (r := r) (m := t.length - (p + L)) hp hfr (fun z hz => by have := (chain_mem c3 z hz).1; omega) (fun j j1 j2 => (hcl j j1 (by omega)).1)
      rw [hL, show p + L - fr + (t.length - (p + L)) = t.length - fr from by omega] at k
      rw [k, s6]
      simp only [List.append_assoc]
    · intro hx10
      refine ⟨?_, ?_, ?_⟩
      · show (lo' : Int) ≤ shiftAt a y
        rw [hpos]
        rcases hlo with ⟨_, rfl⟩ | ⟨h1, rfl, h3⟩
        · omega
        · have : 1 ≤ q := by
            have e : p - fr = (p - fr - 1) + 1 := by omega
            rw [← hq, e, rn0, h3, if_neg (by simp), cutF_snoc (Nat.le_refl fr) (by omega), cutF_same]
            simp; omega
          omega
      · rw [hunkB_iff]
        refine ⟨⟨?_, ?_⟩, c0.2⟩
        · show 0 ≤ shiftAt a y
          omega
        · show shiftAt a y ≤ 10
          omega
      · have e : (shiftAt a y).toNat + y.less.length + 1 = p' + L + 1 := by rw [hpos, hL]; simp
        show chainH ((shiftAt a y).toNat + y.less.length + 1) (shiftF a r)
        rw [e]
        exact k2 hx10
theorem both_len {t : List ByteArray} {ia ib : Nat → List ByteArray} {da db : Nat → Bool} (h : ∀ j, ¬ (da j = true ∧ db j = true)) : ∀ (n i : Nat), i + n ≤ t.length →
    (rn0 t (fun j => ia j ++ ib j) (fun j => da j || db j) n i).length + n = (rn0 t ia da n i).length + (rn0 t ib db n i).length
  | 0, _, _ => by simp [rn0]
  | n + 1, i, hi => by
    have ih := both_len (t := t) (ia := ia) (ib := ib) h n (i + 1) (by omega)
    have hc : (cutF t i (i + 1)).length = 1 := by
      have := cutF_len (a := t) (f := i) (i := i + 1) (by omega) (by omega)
      omega
    have h0 := h i
    rw [rn0, rn0, rn0]
    simp only [List.length_append]
    cases ha : da i <;> cases hb : db i
    · simp only [Bool.or_false, Bool.false_eq_true, if_false, hc]; omega
    · simp only [Bool.or_true, Bool.false_eq_true, if_false, if_true, hc, List.length_nil]; omega
    · simp only [Bool.or_false, Bool.false_eq_true, if_false, if_true, hc, List.length_nil]; omega
    · exact absurd ⟨ha, hb⟩ h0
theorem pDo_doF {t x : List ByteArray} {d : List Hunk} (h : pDo t d = (x, true)) : textB t = true ∧ patchB d = true ∧ textB x = true ∧ doF t d 0 [] = some x := by
  have h0 := pDo_text (t := t) (d := d) (by rw [h])
  rw [pDo_ok h0.1 h0.2.1] at h
  unfold pDoF at h
  cases hd : doF t d 0 [] with
  | none => rw [hd] at h; simp [pFin] at h
  | some z =>
    rw [hd, pFin] at h
    split at h
    · rename_i hz
      have e : z = x := (Prod.mk.inj h).1
      subst e
      exact ⟨h0.1, h0.2.1, hz, rfl⟩
    · simp at h
/-- the law -/
theorem free_law {t x y : List ByteArray} {a b : List Hunk} (hN : t.Nodup) (hf : freeB a b = true) (h1 : pDo t a = (x, true)) (h2 : pDo t b = (y, true)) (hl : x.length + y.length ≤ 10 + t.length)
    (hma : ∀ h, h ∈ a → ∀ s, s ∈ t → s ∉ h.more) (hmb : ∀ h, h ∈ b → ∀ s, s ∈ t → s ∉ h.more) : ∃ z, mText t x y = (z, true) ∧ pDo x (shiftT a b) = (z, true) := by
  have hfree := hf
  unfold freeB at hf
  simp only [Bool.and_eq_true] at hf
  obtain ⟨⟨hpa, hpb⟩, hff⟩ := hf
  have ca := patch_chain hpa
  have cb := patch_chain hpb
  obtain ⟨tt, _, tx, d1⟩ := pDo_doF h1
  obtain ⟨_, _, ty, d2⟩ := pDo_doF h2
  obtain ⟨r1, _⟩ := do_rn t a 0 0 [] x ca (Nat.le_refl _) (Nat.zero_le _) d1
  obtain ⟨r2, fit⟩ := do_rn t b 0 0 [] y cb (Nat.le_refl _) (Nat.zero_le _) d2
  have r1 : x = rn t (insH a) (delH a) t.length 0 := r1
  have r2 : y = rn t (insH b) (delH b) t.length 0 := r2
  have ia : ∀ j s, s ∈ insH a j → s ∉ t := fun j s hs ht => by
    obtain ⟨h, hh, hs⟩ := insH_mem hs
    exact hma h hh s ht hs
  have ib : ∀ j s, s ∈ insH b j → s ∉ t := fun j s hs ht => by
    obtain ⟨h, hh, hs⟩ := insH_mem hs
    exact hmb h hh s ht hs
  have hnb : ∀ j, ¬ (delH a j = true ∧ delH b j = true) := fun j ⟨h3, h4⟩ => by
    obtain ⟨u, hu, u1, u2⟩ := delH_some h3
    obtain ⟨v, hv, v1, v2⟩ := delH_some h4
    rcases apart_of hff hu hv with h5 | h5 <;> omega
  obtain ⟨z, hz⟩ : ∃ z, z = rn t (fun j => insH a j ++ insH b j) (fun j => delH a j || delH b j) t.length 0 := ⟨_, rfl⟩
  have zl : z.length + t.length = x.length + y.length := by
    have := both_len (t := t) (ia := insH a) (ib := insH b) hnb t.length 0 (by omega)
    rw [hz, r1, r2]
    unfold rn
    simp only [List.length_append]
    omega
  have zt : textB z = true := by
    rw [textB_iff']
    refine ⟨by omega, fun s hs => ?_⟩
    rw [hz] at hs
    rcases rn_mem hs with ⟨j, hj⟩ | ⟨j, hj, _, _, _, h4⟩
    · rcases List.mem_append.1 hj with hj | hj
      · obtain ⟨h, hh, hs⟩ := insH_mem hj
        exact ((textB_iff' _).1 ((hunkB_iff h).1 (chain_mem ca h hh).2).2.2.1).2 s hs
      · obtain ⟨h, hh, hs⟩ := insH_mem hj
        exact ((textB_iff' _).1 ((hunkB_iff h).1 (chain_mem cb h hh).2).2.2.1).2 s hs
    · rw [← h4]
      exact ((textB_iff' _).1 tt).2 _ (List.getElem_mem hj)
  refine ⟨z, ?_, ?_⟩
  · have hm := mg_free hN ia ib (fun f i _ hno => apart_gap ca cb hff f i hno) (pairsT t x) (pairsT t y) 0 0 0 0 0 0 [] [] (pairs_pk hN ia r1) (pairs_pk hN ib r2) (Nat.le_refl _) (Nat.le_refl _) (Nat.le_refl _) (Nat.zero_le _)
      (by rw [List.drop_zero, Nat.sub_zero]; exact r1) (by rw [List.drop_zero, Nat.sub_zero]; exact r2) (fun j h3 h4 => absurd h4 (by omega)) ⟨fun p hp => (by cases hp), rfl⟩
    have hm2 : plainP (mergeT t x y) z := by
      rw [hz]
      exact hm
    unfold mText
    rw [if_pos (three_iff.2 ⟨tt, tx, ty⟩), plain_text hm2, List.nil_append, pFin, if_pos zt]
  · have hx10 := text_len10 tx
    obtain ⟨k1, k2⟩ := shift_do ca r1 b 0 0 0 0 [] cb (fun v hv u hu => apart_of hff hu hv) fit (Nat.zero_le _) (Nat.zero_le _) (by rw [List.drop_zero, Nat.sub_zero]; exact r1) (.inl ⟨rfl, rfl⟩)
    have hp : patchB (shiftF a b) = true := chain_patch (k2 hx10) (by
      have := patch_len hpb
      simp [shiftF]; omega)
    unfold shiftT
    rw [if_pos hfree, pDo_ok tx hp]
    exact pDoF_some (by rw [k1, hz]; rfl) zt
end Go.Vc
