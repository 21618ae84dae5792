/-
  Plain law: what two sides made apart is all there. No program is in sight here.
-/
import Derived.Test.YtlpfoekbccbhlaaPlMS
import Derived.Test.YtlpfoekbccbhlaaVPM
set_option linter.unusedVariables false
namespace Go.Vc
/-- what a patch puts in ahead of line i -/
def insH (d : List Hunk) (i : Nat) : List ByteArray := ((d.filter fun h => decide (h.at_ = (i : Int))).map (·.more)).flatten
/-- whether a patch takes line i out -/
def delH (d : List Hunk) (i : Nat) : Bool := d.any fun h => decide (h.at_ ≤ (i : Int)) && decide ((i : Int) < h.at_ + h.less.length)
theorem insH_nil (i : Nat) : insH [] i = [] := rfl
theorem delH_nil (i : Nat) : delH [] i = false := rfl
theorem insH_cons (h : Hunk) (r : List Hunk) (i : Nat) : insH (h :: r) i = (if h.at_ = (i : Int) then h.more else []) ++ insH r i := by
  unfold insH
  by_cases he : h.at_ = (i : Int)
  · rw [List.filter_cons_of_pos (by simpa using he), if_pos he]; rfl
  · rw [List.filter_cons_of_neg (by simpa using he), if_neg he]; rfl
theorem delH_cons (h : Hunk) (r : List Hunk) (i : Nat) : delH (h :: r) i = ((decide (h.at_ ≤ (i : Int)) && decide ((i : Int) < h.at_ + h.less.length)) || delH r i) := rfl
theorem insH_none {d : List Hunk} {i : Nat} (h : ∀ x, x ∈ d → ¬ x.at_ = (i : Int)) : insH d i = [] := by
  unfold insH
  rw [List.filter_eq_nil_iff.2 (fun x hx => by simpa using h x hx)]; rfl
theorem delH_none {d : List Hunk} {i : Nat} (h : ∀ x, x ∈ d → ¬ (x.at_ ≤ (i : Int) ∧ (i : Int) < x.at_ + x.less.length)) : delH d i = false := by
  unfold delH
  rw [List.any_eq_false]
  intro x hx
  simp only [Bool.and_eq_true, decide_eq_true_eq]
  exact h x hx
theorem delH_some {d : List Hunk} {i : Nat} (h : delH d i = true) : ∃ x, x ∈ d ∧ x.at_ ≤ (i : Int) ∧ (i : Int) < x.at_ + x.less.length := by
  unfold delH at h
  rw [List.any_eq_true] at h
  obtain ⟨x, hx, h⟩ := h
  simp only [Bool.and_eq_true, decide_eq_true_eq] at h
  exact ⟨x, hx, h⟩
theorem insH_some {d : List Hunk} {i : Nat} (h : ¬ insH d i = []) : ∃ x, x ∈ d ∧ x.at_ = (i : Int) :=
  Classical.byContradiction fun hc => h (insH_none fun x hx e => hc ⟨x, hx, e⟩)
theorem insH_mem {d : List Hunk} {i : Nat} {s : ByteArray} (h : s ∈ insH d i) : ∃ x, x ∈ d ∧ s ∈ x.more := by
  unfold insH at h
  obtain ⟨l, hl, hs⟩ := List.mem_flatten.1 h
  obtain ⟨x, hx, rfl⟩ := List.mem_map.1 hl
  exact ⟨x, (List.mem_filter.1 hx).1, hs⟩

/-- n lines from i on, with what is put in ahead of each -/
def rn0 (t : List ByteArray) (ins : Nat → List ByteArray) (del : Nat → Bool) : Nat → Nat → List ByteArray
  | 0, _ => []
  | n + 1, i => ins i ++ ((if del i = true then [] else cutF t i (i + 1)) ++ rn0 t ins del n (i + 1))
def rn (t : List ByteArray) (ins : Nat → List ByteArray) (del : Nat → Bool) (n i : Nat) : List ByteArray := rn0 t ins del n i ++ ins (i + n)
section
variable {t : List ByteArray} {ins ins' : Nat → List ByteArray} {del del' : Nat → Bool}
theorem rn0_add (m : Nat) : ∀ (k i : Nat), rn0 t ins del (k + m) i = rn0 t ins del k i ++ rn0 t ins del m (i + k)
  | 0, i => by rw [Nat.zero_add]; rfl
  | k + 1, i => by
    have e : k + 1 + m = (k + m) + 1 := by omega
    have e2 : i + (k + 1) = i + 1 + k := by omega
    rw [e, rn0, rn0, rn0_add m k (i + 1), e2]
    simp only [List.append_assoc]
theorem rn_add (k m i : Nat) : rn t ins del (k + m) i = rn0 t ins del k i ++ rn t ins del m (i + k) := by
  unfold rn
  rw [rn0_add, List.append_assoc, Nat.add_assoc]
theorem rn0_congr : ∀ (n i : Nat), (∀ j, i ≤ j → j < i + n → ins j = ins' j ∧ del j = del' j) → rn0 t ins del n i = rn0 t ins' del' n i
  | 0, _, _ => rfl
  | n + 1, i, h => by
    have h0 := h i (Nat.le_refl _) (by omega)
    rw [rn0, rn0, h0.1, h0.2, rn0_congr n (i + 1) fun j h1 h2 => h j (by omega) (by omega)]
theorem rn_congr (n i : Nat) (h1 : ∀ j, i ≤ j → j ≤ i + n → ins j = ins' j) (h2 : ∀ j, i ≤ j → j < i + n → del j = del' j) : rn t ins del n i = rn t ins' del' n i := by
  unfold rn
  rw [rn0_congr n i fun j h3 h4 => ⟨h1 j h3 (by omega), h2 j h3 h4⟩, h1 (i + n) (by omega) (Nat.le_refl _)]
theorem cutF_add (t : List ByteArray) (i k m : Nat) : cutF t i (i + k) ++ cutF t (i + k) (i + k + m) = cutF t i (i + k + m) := by
  unfold cutF
  have e1 : i + k - i = k := by omega
  have e2 : i + k + m - (i + k) = m := by omega
  have e3 : i + k + m - i = k + m := by omega
  rw [e1, e2, e3, List.take_add, List.drop_drop]
theorem rn0_clean : ∀ (n i : Nat), (∀ j, i ≤ j → j < i + n → ins j = [] ∧ del j = false) → rn0 t ins del n i = cutF t i (i + n)
  | 0, i, _ => by rw [rn0, Nat.add_zero, cutF_same]
  | n + 1, i, h => by
    have h0 := h i (Nat.le_refl _) (by omega)
    have := cutF_add t i 1 n
    have e : i + 1 + n = i + (n + 1) := by omega
    rw [e] at this
    rw [rn0, h0.1, h0.2, rn0_clean n (i + 1) fun j h1 h2 => h j (by omega) (by omega), if_neg (by simp), List.nil_append, e, this]
theorem rn0_gone : ∀ (n i : Nat), (∀ j, i ≤ j → j < i + n → ins j = [] ∧ del j = true) → rn0 t ins del n i = []
  | 0, i, _ => rfl
  | n + 1, i, h => by
    have h0 := h i (Nat.le_refl _) (by omega)
    rw [rn0, h0.1, h0.2, rn0_gone n (i + 1) fun j h1 h2 => h j (by omega) (by omega), if_pos rfl]; rfl
theorem rn0_mem {s : ByteArray} : ∀ (n i : Nat), s ∈ rn0 t ins del n i → (∃ j, s ∈ ins j) ∨ ∃ j, ∃ h : j < t.length, i ≤ j ∧ j < i + n ∧ del j = false ∧ t[j] = s
  | 0, i, h => by rw [rn0] at h; cases h
  | n + 1, i, h => by
    rw [rn0] at h
    rcases List.mem_append.1 h with h | h
    · exact .inl ⟨i, h⟩
    · rcases List.mem_append.1 h with h | h
      · cases hd : del i with
        | true => rw [hd, if_pos rfl] at h; cases h
        | false =>
          rw [hd, if_neg (by simp)] at h
          by_cases hi : i < t.length
          · rw [cutF_snoc (Nat.le_refl i) hi, cutF_same, List.nil_append] at h
            exact .inr ⟨i, hi, Nat.le_refl _, by omega, hd, (List.mem_singleton.1 h).symm⟩
          · unfold cutF at h
            rw [List.drop_eq_nil_of_le (by omega)] at h
            simp at h
      · rcases rn0_mem n (i + 1) h with h | ⟨j, hj, h1, h2, h3⟩
        · exact .inl h
        · exact .inr ⟨j, hj, by omega, by omega, h3⟩
theorem rn_mem {s : ByteArray} {n i : Nat} (h : s ∈ rn t ins del n i) : (∃ j, s ∈ ins j) ∨ ∃ j, ∃ h : j < t.length, i ≤ j ∧ j < i + n ∧ del j = false ∧ t[j] = s := by
  unfold rn at h
  rcases List.mem_append.1 h with h | h
  · exact rn0_mem n i h
  · exact .inl ⟨_, h⟩
/-- a line that is kept parts it -/
theorem rn_kept {n i k : Nat} (hk : i ≤ k) (hn : k < i + n) (ht : k < t.length) (hd : del k = false) : rn t ins del n i = rn t ins del (k - i) i ++ t[k] :: rn t ins del (i + n - k - 1) (k + 1) := by
  have e : n = (k - i) + ((i + n - k - 1) + 1) := by omega
  have e2 : i + (k - i) = k := by omega
  have h1 : rn t ins del n i = rn0 t ins del (k - i) i ++ rn t ins del ((i + n - k - 1) + 1) k := by
    have := rn_add (t := t) (ins := ins) (del := del) (k - i) ((i + n - k - 1) + 1) i
    rw [← e, e2] at this
    exact this
  rw [h1]
  unfold rn
  rw [rn0, hd, if_neg (by simp), cutF_snoc (Nat.le_refl k) ht, cutF_same, e2]
  have e3 : k + (i + n - k - 1 + 1) = k + 1 + (i + n - k - 1) := by omega
  rw [e3]
  simp only [List.append_assoc, List.nil_append, List.cons_append]
end
/-- a patch's first piece, and what is behind it -/
theorem rn_cons {t : List ByteArray} {ia : Nat → List ByteArray} {da : Nat → Bool} {y : Hunk} {r : List Hunk} {p fr m : Nat} (hp : y.at_ = (p : Int)) (hfr : fr ≤ p) (hr : ∀ x, x ∈ r → y.at_ + y.less.length < x.at_)
    (hA : ∀ j, p ≤ j → j ≤ p + y.less.length → ia j = []) :
    rn t (fun j => ia j ++ insH (y :: r) j) (fun j => da j || delH (y :: r) j) ((p + y.less.length - fr) + m) fr = rn0 t ia da (p - fr) fr ++ (y.more ++ rn t (fun j => ia j ++ insH r j) (fun j => da j || delH r j) m (p + y.less.length)) := by
  obtain ⟨L, hL⟩ : ∃ L, L = y.less.length := ⟨_, rfl⟩
  rw [← hL] at hr hA ⊢
  have e : p + L - fr + m = (p - fr) + (L + m) := by omega
  have e2 : fr + (p - fr) = p := by omega
  have hlo : ∀ j : Nat, j < p → insH (y :: r) j = [] ∧ delH (y :: r) j = false := fun j hj => by
    refine ⟨insH_none fun x hx => ?_, delH_none fun x hx => ?_⟩
    · rcases List.mem_cons.1 hx with rfl | hx
      · omega
      · have := hr x hx; omega
    · rcases List.mem_cons.1 hx with rfl | hx
      · omega
      · have := hr x hx; omega
  rw [e, rn_add, e2]
  congr 1
  · exact rn0_congr _ _ fun j h1 h2 => by
      obtain ⟨h3, h4⟩ := hlo j (by omega)
      exact ⟨by simp only [h3, List.append_nil], by simp only [h4, Bool.or_false]⟩
  · have hrp : ∀ j : Nat, j ≤ p + L → insH r j = [] ∧ delH r j = false := fun j hj =>
      ⟨insH_none fun x hx => by have := hr x hx; omega, delH_none fun x hx => by have := hr x hx; omega⟩
    have hip : insH (y :: r) p = y.more := by rw [insH_cons, if_pos hp, (hrp p (by omega)).1, List.append_nil]
    have hhi : ∀ j : Nat, p < j → insH (y :: r) j = insH r j := fun j hj => by rw [insH_cons, if_neg (by omega), List.nil_append]
    have hdi : ∀ j : Nat, p + L ≤ j → delH (y :: r) j = delH r j := fun j hj => by
      rw [delH_cons, ← hL, decide_eq_false (by omega : ¬ (j : Int) < y.at_ + (L : Int)), Bool.and_false, Bool.false_or]
    cases L with
    | zero =>
      rw [Nat.zero_add]
      cases m with
      | zero =>
        unfold rn
        simp only [rn0, Nat.add_zero, List.nil_append, hip, hA p (Nat.le_refl _) (by omega), (hrp p (by omega)).1, List.append_nil]
      | succ m =>
        unfold rn
        simp only [Nat.add_zero]
        rw [rn0, rn0, hip, hA p (Nat.le_refl _) (by omega), hdi p (by omega), (hrp p (by omega)).1,
          rn0_congr (ins' := fun j => ia j ++ insH r j) (del' := fun j => da j || delH r j) m (p + 1) fun j h1 h2 => ⟨by simp only [hhi j (by omega)], by simp only [hdi j (by omega)]⟩, hhi (p + (m + 1)) (by omega)]
        simp only [List.nil_append, List.append_assoc]
    | succ L =>
      have hd1 : ∀ j : Nat, p ≤ j → j < p + (L + 1) → delH (y :: r) j = true := fun j h1 h2 => by
        rw [delH_cons, ← hL, decide_eq_true (by omega : y.at_ ≤ (j : Int)), decide_eq_true (by omega : (j : Int) < y.at_ + ((L + 1 : Nat) : Int))]; rfl
      rw [rn_add, rn0, hip, hA p (Nat.le_refl _) (by omega), hd1 p (Nat.le_refl _) (by omega), Bool.or_true, if_pos rfl, rn0_gone L (p + 1) fun j h1 h2 => ⟨by rw [hA j (by omega) (by omega), hhi j (by omega), (hrp j (by omega)).1]; rfl, by rw [hd1 j (by omega) (by omega), Bool.or_true]⟩]
      simp only [List.nil_append, List.append_nil]
      congr 1
      exact rn_congr _ _ (fun j h1 _ => by rw [hhi j (by omega)]) (fun j h1 _ => by rw [hdi j (by omega)])

theorem chain_mem : ∀ {d : List Hunk} {lo : Nat}, chainH lo d → ∀ x, x ∈ d → (lo : Int) ≤ x.at_ ∧ hunkB x = true
  | h :: r, lo, ⟨h1, h2, h3⟩, x, hx => by
    rcases List.mem_cons.1 hx with rfl | hx
    · exact ⟨h1, h2⟩
    · have := chain_mem h3 x hx
      exact ⟨by omega, this.2⟩
theorem patch_chain_from {d : List Hunk} (h : patchB d = true) : ∀ (n k lo : Nat), k + n = d.length → (∀ hk : k < d.length, (lo : Int) ≤ d[k].at_) → chainH lo (d.drop k)
  | 0, k, lo, hn, _ => by rw [drop_nil d k (by omega)]; trivial
  | n + 1, k, lo, hn, hlo => by
    have hk : k < d.length := by omega
    rw [drop_cons d k hk]
    refine ⟨hlo hk, ?_, patch_chain_from h n (k + 1) _ (by omega) fun hk' => ?_⟩
    · have := (((patchB_iff d).1 h).2 k hk).1
      rwa [getD_hunk hk] at this
    · have h1 := patch_gap h (by omega : 0 < k + 1) hk'
      have h2 := patch_at h hk
      simp only [Nat.add_sub_cancel] at h1
      omega
theorem patch_chain {d : List Hunk} (h : patchB d = true) : chainH 0 d := by
  have := patch_chain_from h d.length 0 0 (by omega) fun hk => (patch_at h hk).1
  exact this
theorem chain_apart : ∀ {d : List Hunk} {lo : Nat}, chainH lo d → ∀ x y, x ∈ d → y ∈ d → x = y ∨ x.at_ + x.less.length < y.at_ ∨ y.at_ + y.less.length < x.at_
  | h :: r, lo, ⟨h1, h2, h3⟩, x, y, hx, hy => by
    have h0 := ((hunkB_iff h).1 h2).1
    rcases List.mem_cons.1 hx with e1 | hx1
    · rcases List.mem_cons.1 hy with e2 | hy1
      · exact .inl (e1.trans e2.symm)
      · have := (chain_mem h3 y hy1).1
        subst e1
        exact .inr (.inl (by omega))
    · rcases List.mem_cons.1 hy with e2 | hy1
      · have := (chain_mem h3 x hx1).1
        subst e2
        exact .inr (.inr (by omega))
      · exact chain_apart h3 x y hx1 hy1
/-- what a patch makes of a text -/
theorem do_rn (t : List ByteArray) : ∀ (d : List Hunk) (lo fr : Nat) (out x : List ByteArray), chainH lo d → fr ≤ lo → fr ≤ t.length → doF t d fr out = some x →
    x = out ++ rn t (fun j => [] ++ insH d j) (fun j => false || delH d j) (t.length - fr) fr ∧ ∀ h, h ∈ d → h.at_.toNat + h.less.length ≤ t.length ∧ (t.drop h.at_.toNat).take h.less.length = h.less
  | [], lo, fr, out, x, _, _, hf, h => by
    rw [doF] at h
    refine ⟨?_, fun h hh => by cases hh⟩
    rw [← Option.some.inj h]
    congr 1
    unfold rn
    rw [rn0_clean (ins := fun j => [] ++ insH [] j) (del := fun j => false || delH [] j) (t.length - fr) fr (fun j _ _ => ⟨rfl, rfl⟩), cutF_all (by omega)]
    simp [insH_nil]
  | h :: r, lo, fr, out, x, hc, hlo, hf, hd => by
    obtain ⟨c1, c2, c3⟩ := hc
    have c0 := ((hunkB_iff h).1 c2).1
    rw [doF] at hd
    split at hd
    · cases hd
    · rename_i hl
      split at hd
      · rename_i he
        obtain ⟨k1, k2⟩ := do_rn t r _ (h.at_.toNat + h.less.length) _ x c3 (by omega) (by omega) hd
        refine ⟨?_, fun g hg => ?_⟩
        · have hp : h.at_ = (h.at_.toNat : Int) := by omega
          have := rn_cons (t := t) (ia := fun _ => []) (da := fun _ => false) (r := r) (m := t.length - (h.at_.toNat + h.less.length)) hp (by omega : fr ≤ h.at_.toNat) (fun x hx => by have := (chain_mem c3 x hx).1; omega) (fun _ _ _ => rfl)
          have e : h.at_.toNat + h.less.length - fr + (t.length - (h.at_.toNat + h.less.length)) = t.length - fr := by omega
          rw [e] at this
          rw [this, k1, rn0_clean (ins := fun _ => []) (del := fun _ => false) (h.at_.toNat - fr) fr (fun j _ _ => ⟨rfl, rfl⟩)]
          have e2 : fr + (h.at_.toNat - fr) = h.at_.toNat := by omega
          rw [e2]
          simp only [List.append_assoc]
        · rcases List.mem_cons.1 hg with rfl | hg
          · exact ⟨by omega, he⟩
          · exact k2 g hg
      · cases hd

/-- whether a line is one of these -/
def inT (t : List ByteArray) (s : ByteArray) : Bool := t.any fun u => decide (u = s)
theorem inT_iff {t : List ByteArray} {s : ByteArray} : inT t s = true ↔ s ∈ t := by
  unfold inT
  rw [List.any_eq_true]
  constructor
  · rintro ⟨u, hu, h⟩
    rw [← of_decide_eq_true h]; exact hu
  · intro h
    exact ⟨s, h, decide_eq_true rfl⟩
/-- a list that both have is no longer than what they have together -/
theorem lc_ge (a b : List ByteArray) : ∀ K : List ByteArray, K.Sublist a → K.Sublist b → K.length ≤ lc a b := by
  induction a, b using lc.induct with
  | case1 b => intro K h _; rw [List.sublist_nil.1 h]; simp
  | case2 x aas => intro K _ h; rw [List.sublist_nil.1 h]; simp
  | case3 aas y bs ih =>
    intro K h1 h2
    rw [lc_eq _ _ rfl]
    cases K with
    | nil => simp
    | cons k K =>
      have t1 : K.Sublist aas := by
        cases h1 with
        | cons _ h => exact (List.sublist_cons_self k K).trans h
        | cons_cons _ h => exact h
      have t2 : K.Sublist bs := by
        cases h2 with
        | cons _ h => exact (List.sublist_cons_self k K).trans h
        | cons_cons _ h => exact h
      have := ih K t1 t2
      simp; omega
  | case4 x aas y bs h ih1 ih2 =>
    intro K h1 h2
    rw [lc_ne _ _ h]
    by_cases hk : K.Sublist aas
    · have := ih1 K hk h2
      omega
    · have h3 : K.Sublist bs := by
        cases h2 with
        | cons _ h4 => exact h4
        | cons_cons _ h4 =>
          cases h1 with
          | cons _ h5 => exact absurd h5 hk
          | cons_cons _ h5 => exact absurd rfl h
      have := ih2 K h1 h3
      omega
theorem lc_up (a b : List ByteArray) : lc a b ≤ b.countP (inT a) := by
  induction a, b using lc.induct with
  | case1 b => rw [lc_nil]; omega
  | case2 x aas => rw [lc_nil_r]; omega
  | case3 aas y bs ih =>
    rw [lc_eq _ _ rfl, List.countP_cons_of_pos (inT_iff.2 (List.mem_cons_self ..))]
    have : bs.countP (inT aas) ≤ bs.countP (inT (y :: aas)) := List.countP_mono_left fun s _ h => by
      rw [inT_iff] at h ⊢
      exact List.mem_cons_of_mem _ h
    omega
  | case4 x aas y bs h ih1 ih2 =>
    rw [lc_ne _ _ h]
    have h1 : (y :: bs).countP (inT aas) ≤ (y :: bs).countP (inT (x :: aas)) := List.countP_mono_left fun s _ h => by
      rw [inT_iff] at h ⊢
      exact List.mem_cons_of_mem _ h
    have h2 : bs.countP (inT (x :: aas)) ≤ (y :: bs).countP (inT (x :: aas)) := (List.sublist_cons_self y bs).countP_le
    omega
/-- lines kept are matched, where they are; others are not -/
def pk (t b : List ByteArray) (del : Nat → Bool) : List Int → Nat → Nat → Prop
  | [], i, _ => i = t.length + 1
  | m :: ms, i, f => (i < t.length ∧ del i = true ∧ m = -1 ∧ pk t b del ms (i + 1) f) ∨
      ∃ k : Nat, m = (k : Int) ∧ f ≤ k ∧ ((∃ (hi : i < t.length) (hk : k < b.length), del i = false ∧ t[i] = b[k]) ∨ (i = t.length ∧ k = b.length)) ∧ pk t b del ms (i + 1) (k + 1)
theorem nodup_ahead {t : List ByteArray} (hN : t.Nodup) {i : Nat} (hi : i < t.length) : t[i] ∉ t.drop (i + 1) := by
  have : (t.drop i).Nodup := (List.drop_sublist i t).nodup hN
  rw [drop_cons t i hi] at this
  exact (List.nodup_cons.1 this).1
theorem mem_drop_of {t : List ByteArray} {i j : Nat} (h : i ≤ j) (hj : j < t.length) : t[j] ∈ t.drop i := by
  rw [List.mem_iff_getElem]
  exact ⟨j - i, by simp; omega, by rw [List.getElem_drop]; congr 1; omega⟩
theorem mt_pk {t b : List ByteArray} {del : Nat → Bool} (hN : t.Nodup) (r : List ByteArray) (j : Nat) : ∀ (i f : Nat), r = t.drop i → i ≤ t.length → f ≤ j → j ≤ b.length →
    ((b.drop j).filter (inT t)).Sublist (t.drop i) → (∀ (k : Nat) (hk : k < t.length), i ≤ k → (del k = false ↔ t[k] ∈ b.drop j)) → pk t b del (mt b r j ++ [(b.length : Int)]) i f := by
  induction r, j using mt.induct (b := b) with
  | case1 j =>
    intro i f ha hi hf hj _ _
    have : t.length ≤ i := by
      have := congrArg List.length ha
      simp at this; omega
    obtain rfl : i = t.length := by omega
    rw [mt_nil, List.nil_append]
    exact .inr ⟨b.length, rfl, by omega, .inr ⟨rfl, rfl⟩, rfl⟩
  | case2 j r hj ih =>
    intro i f ha hi hf hjl hs hd
    have hl : i < t.length := by
      have := congrArg List.length ha
      simp at this; omega
    rw [drop_cons t i hl] at ha hs
    injection ha with e1 e2
    rw [mt, dif_pos hj, if_pos rfl, List.cons_append]
    rw [drop_cons b j hj] at hs hd
    rw [List.filter_cons_of_pos (inT_iff.2 (by rw [e1]; exact List.getElem_mem hl)), e1] at hs
    have hn := nodup_ahead hN hl
    refine .inr ⟨j, rfl, hf, .inl ⟨hl, hj, (hd i hl (Nat.le_refl _)).2 (by rw [← e1]; exact List.mem_cons_self ..), e1.symm⟩, ih (i + 1) (j + 1) e2 hl (Nat.le_refl _) hj (List.cons_sublist_cons.1 hs) fun k hk h => ?_⟩
    rw [hd k hk (by omega), e1, List.mem_cons]
    constructor
    · rintro (h1 | h1)
      · exact absurd (h1 ▸ mem_drop_of h hk) hn
      · exact h1
    · exact .inr
  | case3 j x r hj e h ih =>
    intro i f ha hi hf hjl hs hd
    have hl : i < t.length := by
      have := congrArg List.length ha
      simp at this; omega
    have hn := nodup_ahead hN hl
    rw [drop_cons t i hl] at ha hs
    injection ha with e1 e2
    have hx : x ∉ b.drop j := fun hx => by
      rw [← e1, ← e2] at hs
      rw [← e1, ← e2] at hn
      have hxt : x ∈ t := by rw [e1]; exact List.getElem_mem hl
      have hrt : ∀ s, s ∈ r → s ∈ t := fun s hs => by rw [e2] at hs; exact List.mem_of_mem_drop hs
      rw [drop_cons b j hj] at hs hx h
      have hbt : b[j] ∉ t := fun hb => by
        rw [List.filter_cons_of_pos (inT_iff.2 hb)] at hs
        cases hs with
        | cons _ h4 =>
          rcases List.mem_cons.1 hx with hx | hx
          · exact e hx
          · exact hn (h4.subset (List.mem_cons_of_mem _ (List.mem_filter.2 ⟨hx, inT_iff.2 hxt⟩)))
        | cons_cons _ h4 => exact e rfl
      rw [List.filter_cons_of_neg (fun h => hbt (inT_iff.1 h))] at hs
      have hxs : x ∈ b.drop (j + 1) := by
        rcases List.mem_cons.1 hx with hx | hx
        · exact absurd hx e
        · exact hx
      have hxK : x ∈ (b.drop (j + 1)).filter (inT t) := List.mem_filter.2 ⟨hxs, inT_iff.2 hxt⟩
      have h5 := lc_ge (x :: r) (b.drop (j + 1)) _ hs (List.filter_sublist ..)
      have h6 := lc_up r (b[j] :: b.drop (j + 1))
      have h7 : (b[j] :: b.drop (j + 1)).countP (inT r) = ((b.drop (j + 1)).filter (inT t)).countP (inT r) := by
        rw [List.countP_cons_of_neg (fun hb => hbt (hrt _ (inT_iff.1 hb))), List.countP_filter]
        refine List.countP_congr fun s _ => ?_
        rw [Bool.and_eq_true, inT_iff, inT_iff]
        exact ⟨fun h => ⟨h, hrt _ h⟩, fun h => h.1⟩
      rw [h7] at h6
      generalize ((b.drop (j + 1)).filter (inT t)) = K at *
      cases hs with
      | cons _ h4 => exact hn (h4.subset hxK)
      | cons_cons _ h4 =>
        rename_i K
        rw [List.countP_cons_of_neg (fun h => hn (inT_iff.1 h))] at h6
        have := List.countP_le_length (p := inT r) (l := K)
        simp at h5
        omega
    rw [mt, dif_pos hj, if_neg e, if_pos h, List.cons_append]
    refine .inl ⟨hl, ?_, rfl, ih (i + 1) f e2 hl hf hjl ?_ fun k hk h1 => hd k hk (by omega)⟩
    · cases hdi : del i with
      | true => rfl
      | false => exact absurd ((hd i hl (Nat.le_refl _)).1 hdi) (e1 ▸ hx)
    · rw [← e1] at hs
      have hno : x ∉ (b.drop j).filter (inT t) := fun h => hx (List.mem_filter.1 h).1
      generalize (b.drop j).filter (inT t) = K at hs hno ⊢
      cases hs with
      | cons _ h4 => exact h4
      | cons_cons _ h4 => exact absurd (List.mem_cons_self ..) hno
  | case4 j x r hj e h ih =>
    intro i f ha hi hf hjl hs hd
    have hl : i < t.length := by
      have := congrArg List.length ha
      simp at this; omega
    have ha0 := ha
    have hs0 := hs
    rw [drop_cons t i hl] at ha hs
    injection ha with e1 e2
    have hbt : b[j] ∉ t := fun hb => by
      rw [← e1, ← e2, drop_cons b j hj, List.filter_cons_of_pos (inT_iff.2 hb)] at hs
      have hrt : ∀ s, s ∈ x :: r → s ∈ t := fun s hs => by
        rcases List.mem_cons.1 hs with rfl | hs
        · rw [e1]; exact List.getElem_mem hl
        · rw [e2] at hs; exact List.mem_of_mem_drop hs
      have h4 : (b[j] :: (b.drop (j + 1)).filter (inT t)).Sublist r := by
        cases hs with
        | cons _ h4 => exact h4
        | cons_cons _ h4 => exact absurd rfl e
      have h5 := lc_ge r (b.drop j) _ h4 (by rw [drop_cons b j hj]; exact List.Sublist.cons_cons _ (List.filter_sublist ..))
      have h6 := lc_up (x :: r) (b.drop (j + 1))
      have h7 : (b.drop (j + 1)).countP (inT (x :: r)) ≤ (b.drop (j + 1)).countP (inT t) := List.countP_mono_left fun s _ h => by
        rw [inT_iff] at h ⊢
        exact hrt s h
      rw [List.countP_eq_length_filter (p := inT t)] at h7
      simp at h5
      omega
    rw [mt, dif_pos hj, if_neg e, if_neg h]
    refine ih i f ha0 hi (by omega) hj ?_ fun k hk h1 => ?_
    · rw [drop_cons b j hj, List.filter_cons_of_neg (fun h => hbt (inT_iff.1 h))] at hs0
      exact hs0
    · rw [hd k hk h1, drop_cons b j hj, List.mem_cons]
      exact ⟨fun h => h.resolve_left fun h2 => hbt (h2 ▸ List.getElem_mem hk), .inr⟩
  | case5 j x r hj ih =>
    intro i f ha hi hf hjl hs hd
    have hl : i < t.length := by
      have := congrArg List.length ha
      simp at this; omega
    rw [drop_cons t i hl] at ha
    injection ha with e1 e2
    have hbn : b.drop j = [] := List.drop_eq_nil_of_le (by omega)
    rw [mt, dif_neg hj, List.cons_append]
    refine .inl ⟨hl, ?_, rfl, ih (i + 1) f e2 hl hf hjl ?_ fun k hk h1 => hd k hk (by omega)⟩
    · cases hdi : del i with
      | true => rfl
      | false =>
        have := (hd i hl (Nat.le_refl _)).1 hdi
        rw [hbn] at this
        cases this
    · rw [hbn]; exact List.nil_sublist _
end Go.Vc
