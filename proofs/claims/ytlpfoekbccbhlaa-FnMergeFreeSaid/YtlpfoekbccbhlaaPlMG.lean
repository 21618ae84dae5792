/-
  Plain law: a merge of what two sides made apart. No program is in sight here.
-/
import Derived.Test.YtlpfoekbccbhlaaPlMF
set_option linter.unusedVariables false
namespace Go.Vc
def cleanOn (ins : Nat → List ByteArray) (del : Nat → Bool) (f i : Nat) : Prop := (∀ j, f ≤ j → j ≤ i → ins j = []) ∧ ∀ j, f ≤ j → j < i → del j = false
/-- parts without a clash, and their lines -/
def plainP (out : List Part) (T : List ByteArray) : Prop := (∀ p, p ∈ out → p.clash = false) ∧ T = (out.map (·.lines)).flatten
theorem plain_text : ∀ {out : List Part} {T acc : List ByteArray}, plainP out T → textF out acc = some (acc ++ T)
  | [], T, acc, h => by rw [textF, h.2]; simp
  | p :: r, T, acc, h => by
    rw [textF, if_neg (by rw [h.1 p (List.mem_cons_self ..)]; simp), plain_text (T := (r.map (·.lines)).flatten) ⟨fun q hq => h.1 q (List.mem_cons_of_mem _ hq), rfl⟩, h.2]
    simp
theorem plain_putL {out : List Part} {T : List ByteArray} (h : plainP out T) (ls : List ByteArray) : plainP (putL out ls) (T ++ ls) := by
  have happ : plainP (out ++ [⟨false, ls, [], [], []⟩]) (T ++ ls) := by
    refine ⟨fun p hp => ?_, by rw [h.2]; simp⟩
    rcases List.mem_append.1 hp with hp | hp
    · exact h.1 p hp
    · rw [List.mem_singleton.1 hp]
  unfold putL
  split
  · rename_i h0
    rw [List.eq_nil_of_length_eq_zero h0, List.append_nil]; exact h
  · split
    · rename_i h1
      split
      · exact happ
      · obtain ⟨ini, l, rfl⟩ : ∃ ini l, out = ini ++ [l] := ⟨out.dropLast, out.getLast (List.ne_nil_of_length_pos h1), (List.dropLast_concat_getLast _).symm⟩
        have e : (ini ++ [l]).length - 1 = ini.length := by simp
        have el : (ini ++ [l])[(ini ++ [l]).length - 1]'(by omega) = l := by simp
        rw [el]
        have es : (ini ++ [l]).set ((ini ++ [l]).length - 1) ⟨l.clash, l.lines ++ ls, l.old, l.one, l.two⟩ = ini ++ [⟨l.clash, l.lines ++ ls, l.old, l.one, l.two⟩] := by
          rw [e]; simp
        rw [es]
        refine ⟨fun p hp => ?_, by rw [h.2]; simp⟩
        rcases List.mem_append.1 hp with hp | hp
        · exact h.1 p (List.mem_append.2 (.inl hp))
        · rw [List.mem_singleton.1 hp]
          exact h.1 l (List.mem_append.2 (.inr (List.mem_singleton.2 rfl)))
    · exact happ
theorem plain_piece {out : List Part} {T : List ByteArray} (h : plainP out T) {old one two both : List ByteArray} (hc : (one = old ∧ both = two) ∨ (two = old ∧ both = one)) : plainP (pieceG out old one two) (T ++ both) := by
  rcases hc with ⟨h1, rfl⟩ | ⟨h1, rfl⟩
  · rw [pieceG_two (.inl h1)]; exact plain_putL h _
  · by_cases h2 : both = old ∨ both = two
    · rw [pieceG_two h2]
      have : two = both := by rcases h2 with h2 | h2 <;> simp_all
      rw [this]; exact plain_putL h _
    · rw [pieceG_one h2 h1]; exact plain_putL h _
theorem nodup_inj {t : List ByteArray} (hN : t.Nodup) {i j : Nat} (hi : i < t.length) (hj : j < t.length) (h : t[i] = t[j]) : i = j := by
  rcases Nat.lt_trichotomy i j with h1 | h1 | h1
  · exact absurd (h ▸ mem_drop_of (by omega : i + 1 ≤ j) hj) (nodup_ahead hN hi)
  · exact h1
  · exact absurd (h ▸ mem_drop_of (by omega : j + 1 ≤ i) hi) (nodup_ahead hN hj)
/-- where a line is that is there but once -/
theorem place_of {a P Q : List ByteArray} {s : ByteArray} {fa k : Nat} (h : a.drop fa = P ++ s :: Q) (hP : s ∉ P) (hQ : s ∉ Q) (hf : fa ≤ k) (hk : k < a.length) (he : a[k] = s) : cutF a fa k = P ∧ a.drop (k + 1) = Q := by
  have hl : (a.drop fa).length = P.length + (Q.length + 1) := by rw [h]; simp
  have h1 : (a.drop fa)[k - fa]'(by simp; omega) = s := by
    rw [List.getElem_drop, ← he]
    congr 1; omega
  have h2 : (P ++ s :: Q)[k - fa]'(by rw [← h]; simp; omega) = s := by
    have : (a.drop fa)[k - fa]? = (P ++ s :: Q)[k - fa]? := by rw [h]
    rw [List.getElem?_eq_getElem (by simp; omega), List.getElem?_eq_getElem (by rw [← h]; simp; omega)] at this
    rw [← Option.some.inj this]; exact h1
  have hkP : k - fa = P.length := by
    rcases Nat.lt_trichotomy (k - fa) P.length with h3 | h3 | h3
    · rw [List.getElem_append_left h3] at h2
      exact absurd (h2 ▸ List.getElem_mem h3) hP
    · exact h3
    · obtain ⟨n, hn⟩ : ∃ n, k - fa = P.length + (n + 1) := ⟨k - fa - P.length - 1, by omega⟩
      rw [List.getElem_append_right (by omega)] at h2
      have h4 : (s :: Q)[k - fa - P.length]? = some s := by rw [List.getElem?_eq_getElem (by have := hl; simp at this ⊢; omega), h2]
      rw [hn, Nat.add_sub_cancel_left, List.getElem?_cons_succ] at h4
      exact absurd (List.mem_of_getElem? h4) hQ
  refine ⟨?_, ?_⟩
  · unfold cutF
    rw [h, hkP, List.take_left']
    rfl
  · have : a.drop (k + 1) = (a.drop fa).drop (P.length + 1) := by rw [List.drop_drop]; congr 1; omega
    rw [this, h, List.drop_append]
    simp
section
variable {t a b : List ByteArray} {ia ib : Nat → List ByteArray} {da db : Nat → Bool}
theorem clean_old {ins : Nat → List ByteArray} {del : Nat → Bool} {f i : Nat} (h : cleanOn ins del f i) (hf : f ≤ i) : rn t ins del (i - f) f = cutF t f i := by
  have e : f + (i - f) = i := by omega
  unfold rn
  rw [rn0_clean _ _ fun j h1 h2 => ⟨h.1 j h1 (by omega), h.2 j h1 (by omega)⟩, e, h.1 i hf (Nat.le_refl _), List.append_nil]
theorem clean_both {f i : Nat} (hf : f ≤ i) (hg : cleanOn ia da f i ∨ cleanOn ib db f i) :
    (rn t ia da (i - f) f = cutF t f i ∧ rn t (fun j => ia j ++ ib j) (fun j => da j || db j) (i - f) f = rn t ib db (i - f) f) ∨
    (rn t ib db (i - f) f = cutF t f i ∧ rn t (fun j => ia j ++ ib j) (fun j => da j || db j) (i - f) f = rn t ia da (i - f) f) := by
  rcases hg with h | h
  · exact .inl ⟨clean_old h hf, rn_congr _ _ (fun j h1 h2 => by rw [h.1 j h1 (by omega), List.nil_append]) (fun j h1 h2 => by rw [h.2 j h1 (by omega), Bool.false_or])⟩
  · exact .inr ⟨clean_old h hf, rn_congr _ _ (fun j h1 h2 => by rw [h.1 j h1 (by omega), List.append_nil]) (fun j h1 h2 => by rw [h.2 j h1 (by omega), Bool.or_false])⟩
theorem mg_free (hN : t.Nodup) (hia : ∀ j s, s ∈ ia j → s ∉ t) (hib : ∀ j s, s ∈ ib j → s ∉ t)
    (gap : ∀ f i, f ≤ i → (∀ j, f ≤ j → j < i → da j = true ∨ db j = true) → cleanOn ia da f i ∨ cleanOn ib db f i) :
    ∀ (ps qs : List Int) (i fo fa fb f1 f2 : Nat) (out : List Part) (T : List ByteArray), pk t a da ps i f1 → pk t b db qs i f2 → fa ≤ f1 → fb ≤ f2 → fo ≤ i → i ≤ t.length →
      a.drop fa = rn t ia da (t.length - fo) fo → b.drop fb = rn t ib db (t.length - fo) fo → (∀ j, fo ≤ j → j < i → da j = true ∨ db j = true) → plainP out T →
      plainP (mg t a b ps qs i fo fa fb out) (T ++ rn t (fun j => ia j ++ ib j) (fun j => da j || db j) (t.length - fo) fo)
  | [], _, i, fo, fa, fb, f1, f2, out, T, h1, _, _, _, _, hi, _, _, _, _ => by
    have h1 : i = t.length + 1 := h1
    omega
  | _ :: _, [], i, fo, fa, fb, f1, f2, out, T, _, h1, _, _, _, hi, _, _, _, _ => by
    have h1 : i = t.length + 1 := h1
    omega
  | m :: us, m' :: vs, i, fo, fa, fb, f1, f2, out, T, h1, h2, hf1, hf2, hfo, hi, ha, hb, hno, hT => by
    rw [mg]
    have skip : (da i = true ∨ db i = true) → i < t.length → ∀ g1 g2, pk t a da us (i + 1) g1 → pk t b db vs (i + 1) g2 → fa ≤ g1 → fb ≤ g2 → (m < 0 ∨ m' < 0) →
        plainP (if m < 0 ∨ m' < 0 then mg t a b us vs (i + 1) fo fa fb out else mg t a b us vs (i + 1) (i + 1) (m.toNat + 1) (m'.toNat + 1) (putO t i (pieceG out (cutF t fo i) (cutF a fa m.toNat) (cutF b fb m'.toNat))))
          (T ++ rn t (fun j => ia j ++ ib j) (fun j => da j || db j) (t.length - fo) fo) := by
      intro hd hil g1 g2 k1 k2 k3 k4 k5
      rw [if_pos k5]
      refine mg_free hN hia hib gap us vs (i + 1) fo fa fb g1 g2 out T k1 k2 k3 k4 (by omega) hil ha hb (fun j h3 h4 => ?_) hT
      by_cases hj : j = i
      · rw [hj]; exact hd
      · exact hno j h3 (by omega)
    have hg := clean_both (t := t) hfo (gap fo i hfo hno)
    rcases h1 with ⟨hil, hda, rfl, h1⟩ | ⟨k, rfl, hk1, hk2, h1⟩
    · rcases h2 with ⟨_, _, rfl, h2⟩ | ⟨k', rfl, hk1', _, h2⟩
      · exact skip (.inl hda) hil f1 f2 h1 h2 hf1 hf2 (.inl (by omega))
      · exact skip (.inl hda) hil f1 _ h1 h2 hf1 (by omega) (.inl (by omega))
    · rcases h2 with ⟨hil, hdb, rfl, h2⟩ | ⟨k', rfl, hk1', hk2', h2⟩
      · exact skip (.inr hdb) hil _ f2 h1 h2 (by omega) hf2 (.inr (by omega))
      · rw [if_neg (by omega), Int.toNat_natCast, Int.toNat_natCast]
        rcases hk2 with ⟨hil, hkl, hda, hek⟩ | ⟨rfl, rfl⟩
        · rcases hk2' with ⟨_, hkl', hdb, hek'⟩ | ⟨h3, _⟩
          · have split := fun (ins : Nat → List ByteArray) (del : Nat → Bool) (hd : del i = false) => rn_kept (t := t) (ins := ins) (n := t.length - fo) hfo (by omega) hil hd
            have e : fo + (t.length - fo) - i - 1 = t.length - (i + 1) := by omega
            have none : ∀ (ins : Nat → List ByteArray) (del : Nat → Bool), (∀ j s, s ∈ ins j → s ∉ t) → t[i] ∉ rn t ins del (i - fo) fo ∧ t[i] ∉ rn t ins del (t.length - (i + 1)) (i + 1) := by
              intro ins del hins
              constructor
              · intro hm
                rcases rn_mem hm with ⟨j, hj⟩ | ⟨j, hj, j1, j2, _, j3⟩
                · exact hins j _ hj (List.getElem_mem hil)
                · have := nodup_inj hN _ _ j3
                  omega
              · intro hm
                rcases rn_mem hm with ⟨j, hj⟩ | ⟨j, hj, j1, j2, _, j3⟩
                · exact hins j _ hj (List.getElem_mem hil)
                · have := nodup_inj hN _ _ j3
                  omega
            have sa := split ia da hda
            have sb := split ib db hdb
            have sc := split (fun j => ia j ++ ib j) (fun j => da j || db j) (by rw [hda, hdb]; rfl)
            rw [e] at sa sb sc
            obtain ⟨pa1, pa2⟩ := place_of (ha.trans sa) (none ia da hia).1 (none ia da hia).2 (by omega) hkl hek.symm
            obtain ⟨pb1, pb2⟩ := place_of (hb.trans sb) (none ib db hib).1 (none ib db hib).2 (by omega) hkl' hek'.symm
            rw [pa1, pb1, putO_in hil, sc]
            have hP : plainP (putL (pieceG out (cutF t fo i) (rn t ia da (i - fo) fo) (rn t ib db (i - fo) fo)) [t[i]]) (T ++ rn t (fun j => ia j ++ ib j) (fun j => da j || db j) (i - fo) fo ++ [t[i]]) :=
              plain_putL (plain_piece hT (by
                rcases hg with ⟨g1, g2⟩ | ⟨g1, g2⟩
                · exact .inl ⟨g1, g2⟩
                · exact .inr ⟨g1, g2⟩)) _
            have := mg_free hN hia hib gap us vs (i + 1) (i + 1) (k + 1) (k' + 1) _ _ _ _ h1 h2 (Nat.le_refl _) (Nat.le_refl _) (Nat.le_refl _) hil pa2 pb2 (fun j h3 h4 => by omega) hP
            simpa [List.append_assoc] using this
          · omega
        · rcases hk2' with ⟨h3, _⟩ | ⟨_, rfl⟩
          · omega
          · have hu : us = [] := by
              cases us with
              | nil => rfl
              | cons m us =>
                rcases h1 with ⟨h3, _⟩ | ⟨_, _, _, ⟨h3, _⟩ | ⟨h3, _⟩, _⟩ <;> omega
            subst hu
            have e1 : ∀ vs, mg t a b [] vs (t.length + 1) (t.length + 1) (a.length + 1) (b.length + 1) (putO t t.length (pieceG out (cutF t fo t.length) (cutF a fa a.length) (cutF b fb b.length))) = putO t t.length (pieceG out (cutF t fo t.length) (cutF a fa a.length) (cutF b fb b.length)) := by
              intro vs
              rw [mg]
              intro _ _ _ _ h; cases h
            rw [e1, putO_end (by omega), cutF_all (a := a) (Nat.le_refl _), cutF_all (a := b) (Nat.le_refl _), ha, hb]
            exact plain_piece hT (by
              rcases hg with ⟨g1, g2⟩ | ⟨g1, g2⟩
              · exact .inl ⟨g1, g2⟩
              · exact .inr ⟨g1, g2⟩)
end
/-- the lines of the text that are left, and where -/
theorem rn_filter {t : List ByteArray} {ins : Nat → List ByteArray} {del : Nat → Bool} (hins : ∀ j s, s ∈ ins j → s ∉ t) : ∀ (n i : Nat), i + n = t.length → ((rn t ins del n i).filter (inT t)).Sublist (t.drop i) := by
  have hnone : ∀ j, (ins j).filter (inT t) = [] := fun j => List.filter_eq_nil_iff.2 fun s hs h => hins j s hs (inT_iff.1 h)
  intro n
  unfold rn
  intro i
  rw [List.filter_append, hnone, List.append_nil]
  intro hn
  induction n generalizing i with
  | zero => rw [rn0]; exact List.nil_sublist _
  | succ n ih =>
    have hi : i < t.length := by omega
    rw [rn0, List.filter_append, hnone, List.nil_append, List.filter_append, drop_cons t i hi]
    have := ih (i + 1) (by omega)
    cases hd : del i with
    | true => rw [if_pos rfl]; exact List.Sublist.cons _ this
    | false =>
      rw [if_neg (by simp), cutF_snoc (Nat.le_refl i) hi, cutF_same, List.nil_append, List.filter_cons_of_pos (inT_iff.2 (List.getElem_mem hi))]
      exact List.Sublist.cons_cons _ this
theorem rn_there {t : List ByteArray} {ins : Nat → List ByteArray} {del : Nat → Bool} (hN : t.Nodup) (hins : ∀ j s, s ∈ ins j → s ∉ t) (k : Nat) (hk : k < t.length) : del k = false ↔ t[k] ∈ rn t ins del t.length 0 := by
  constructor
  · intro hd
    rw [rn_kept (Nat.zero_le k) (by omega) hk hd]
    exact List.mem_append.2 (.inr (List.mem_cons_self ..))
  · intro hm
    rcases rn_mem hm with ⟨j, hj⟩ | ⟨j, hj, _, _, h3, h4⟩
    · exact absurd (List.getElem_mem hk) (hins j _ hj)
    · have := nodup_inj hN _ _ h4
      rw [← this]; exact h3
theorem pairs_pk {t x : List ByteArray} {ins : Nat → List ByteArray} {del : Nat → Bool} (hN : t.Nodup) (hins : ∀ j s, s ∈ ins j → s ∉ t) (hx : x = rn t ins del t.length 0) : pk t x del (pairsT t x) 0 0 := by
  refine mt_pk hN t 0 0 0 rfl (Nat.zero_le _) (Nat.le_refl _) (Nat.zero_le _) ?_ fun k hk _ => ?_
  · rw [List.drop_zero, hx]
    exact rn_filter hins t.length 0 (by omega)
  · rw [List.drop_zero, hx]
    exact rn_there hN hins k hk

section
variable {t : List ByteArray} {a b : List Hunk}
theorem apart_of (h : freeF a b = true) {x y : Hunk} (hx : x ∈ a) (hy : y ∈ b) : x.at_ + x.less.length < y.at_ ∨ y.at_ + y.less.length < x.at_ := by
  unfold freeF at h
  have := List.all_eq_true.1 (List.all_eq_true.1 h x hx) y hy
  unfold apartB at this
  simpa using this
theorem not_clean {d : List Hunk} {f i : Nat} (h : ¬ cleanOn (insH d) (delH d) f i) : ∃ x, x ∈ d ∧ x.at_ ≤ (i : Int) ∧ (f : Int) ≤ x.at_ + x.less.length := by
  by_cases h1 : ∀ j, f ≤ j → j ≤ i → insH d j = []
  · by_cases h2 : ∀ j, f ≤ j → j < i → delH d j = false
    · exact absurd ⟨h1, h2⟩ h
    · obtain ⟨j, h3⟩ := Classical.not_forall.1 h2
      obtain ⟨h4, h3⟩ := Classical.not_imp.1 h3
      obtain ⟨h5, h3⟩ := Classical.not_imp.1 h3
      obtain ⟨x, hx, x1, x2⟩ := delH_some (by simpa using h3)
      exact ⟨x, hx, by omega, by omega⟩
  · obtain ⟨j, h3⟩ := Classical.not_forall.1 h1
    obtain ⟨h4, h3⟩ := Classical.not_imp.1 h3
    obtain ⟨h5, h3⟩ := Classical.not_imp.1 h3
    obtain ⟨x, hx, x1⟩ := insH_some h3
    exact ⟨x, hx, by omega, by omega⟩
theorem apart_gap (ha : chainH 0 a) (hb : chainH 0 b) (hf : freeF a b = true) (f i : Nat) (hno : ∀ j, f ≤ j → j < i → delH a j = true ∨ delH b j = true) : cleanOn (insH a) (delH a) f i ∨ cleanOn (insH b) (delH b) f i := by
  by_cases h1 : cleanOn (insH a) (delH a) f i
  · exact .inl h1
  · by_cases h2 : cleanOn (insH b) (delH b) f i
    · exact .inr h2
    · exfalso
      obtain ⟨x, hx, x1, x2⟩ := not_clean h1
      obtain ⟨y, hy, y1, y2⟩ := not_clean h2
      have x0 := (chain_mem ha x hx).1
      have y0 := (chain_mem hb y hy).1
      rcases apart_of hf hx hy with h | h
      · have := hno (x.at_ + x.less.length).toNat (by omega) (by omega)
        rcases this with h3 | h3
        · obtain ⟨z, hz, z1, z2⟩ := delH_some h3
          rcases chain_apart ha x z hx hz with rfl | h4 | h4 <;> omega
        · obtain ⟨z, hz, z1, z2⟩ := delH_some h3
          rcases apart_of hf hx hz with h4 | h4 <;> omega
      · have := hno (y.at_ + y.less.length).toNat (by omega) (by omega)
        rcases this with h3 | h3
        · obtain ⟨z, hz, z1, z2⟩ := delH_some h3
          rcases apart_of hf hz hy with h4 | h4 <;> omega
        · obtain ⟨z, hz, z1, z2⟩ := delH_some h3
          rcases chain_apart hb y z hy hz with rfl | h4 | h4 <;> omega
end
end Go.Vc
