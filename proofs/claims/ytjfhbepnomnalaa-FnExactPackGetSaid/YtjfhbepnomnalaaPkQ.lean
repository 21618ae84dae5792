/-
  Plain functions: a text of a pack, by its chain; that both ways of reading a pack are one. No program is in sight here.
-/
import Derived.Test.YtjfhbepnomnalaaPkP
set_option linter.unusedVariables false
namespace Go.Vc

/-- piece k of a pack is in order -/
def PForm (xs : List Packed) (k : Nat) : Prop := ∀ h : k < xs.length, -1 ≤ xs[k].base ∧ xs[k].base ≤ (k : Int) - 1 ∧ deltaB xs[k].pcs = true
def getN (xs : List Packed) : Nat → Nat → List ByteArray × Bool
  | 0, _ => ([], false)
  | n + 1, k => match xs[k]? with
    | none => ([], false)
    | some p => if 0 ≤ p.base then (if (getN xs n p.base.toNat).2 = true then doB (getN xs n p.base.toNat).1 p.pcs else ([], false)) else doB [] p.pcs
def deepN (xs : List Packed) : Nat → Nat → Nat
  | 0, _ => 1
  | n + 1, k => match xs[k]? with
    | none => 1
    | some p => if 0 ≤ p.base then deepN xs n p.base.toNat + 1 else 1
def getAt (xs : List Packed) (k : Nat) : List ByteArray × Bool := getN xs (k + 1) k
def deepAt (xs : List Packed) (k : Nat) : Nat := deepN xs (k + 1) k
section
variable {xs : List Packed}
theorem getN_fuel : ∀ (n k : Nat), k < n → (∀ j, j ≤ k → PForm xs j) → getN xs n k = getAt xs k
  | 0, k, h, _ => by omega
  | n + 1, k, h, hf => by
    unfold getAt
    rw [getN, getN]
    by_cases hk : k < xs.length
    · rw [List.getElem?_eq_getElem hk]
      simp only
      obtain ⟨h1, h2, _⟩ := hf k (Nat.le_refl _) hk
      by_cases h0 : 0 ≤ xs[k].base
      · have hb : xs[k].base.toNat < k := by omega
        rw [getN_fuel n xs[k].base.toNat (by omega) (fun j hj => hf j (by omega))]
        have e : getN xs k xs[k].base.toNat = getAt xs xs[k].base.toNat := getN_fuel k _ hb (fun j hj => hf j (by omega))
        rw [e]
      · rw [if_neg h0, if_neg h0]
    · rw [List.getElem?_eq_none (by omega)]
  termination_by n k => (n, k)
theorem deepN_fuel : ∀ (n k : Nat), k < n → (∀ j, j ≤ k → PForm xs j) → deepN xs n k = deepAt xs k
  | 0, k, h, _ => by omega
  | n + 1, k, h, hf => by
    unfold deepAt
    rw [deepN, deepN]
    by_cases hk : k < xs.length
    · rw [List.getElem?_eq_getElem hk]
      simp only
      obtain ⟨h1, h2, _⟩ := hf k (Nat.le_refl _) hk
      by_cases h0 : 0 ≤ xs[k].base
      · have hb : xs[k].base.toNat < k := by omega
        rw [deepN_fuel n xs[k].base.toNat (by omega) (fun j hj => hf j (by omega))]
        have e : deepN xs k xs[k].base.toNat = deepAt xs xs[k].base.toNat := deepN_fuel k _ hb (fun j hj => hf j (by omega))
        rw [e]
      · rw [if_neg h0, if_neg h0]
    · rw [List.getElem?_eq_none (by omega)]
  termination_by n k => (n, k)
theorem getAt_base {k : Nat} (hk : k < xs.length) (hf : ∀ j, j ≤ k → PForm xs j) {q : Nat} (hq : xs[k].base = q) :
    getAt xs k = if (getAt xs q).2 = true then doB (getAt xs q).1 xs[k].pcs else ([], false) := by
  have hb := (hf k (Nat.le_refl _) hk).2.1
  rw [getAt, getN, List.getElem?_eq_getElem hk]
  simp only
  rw [hq, if_pos (by omega), Int.toNat_natCast, getN_fuel k q (by omega) (fun j hj => hf j (by omega))]
theorem getAt_none {k : Nat} (hk : k < xs.length) (hq : xs[k].base = -1) : getAt xs k = doB [] xs[k].pcs := by
  rw [getAt, getN, List.getElem?_eq_getElem hk]
  simp only
  rw [hq, if_neg (by omega)]
theorem deepAt_base {k : Nat} (hk : k < xs.length) (hf : ∀ j, j ≤ k → PForm xs j) {q : Nat} (hq : xs[k].base = q) : deepAt xs k = deepAt xs q + 1 := by
  have hb := (hf k (Nat.le_refl _) hk).2.1
  rw [deepAt, deepN, List.getElem?_eq_getElem hk]
  simp only
  rw [hq, if_pos (by omega), Int.toNat_natCast, deepN_fuel k q (by omega) (fun j hj => hf j (by omega))]
theorem deepAt_none {k : Nat} (hk : k < xs.length) (hq : xs[k].base = -1) : deepAt xs k = 1 := by
  rw [deepAt, deepN, List.getElem?_eq_getElem hk]
  simp only
  rw [hq, if_neg (by omega)]
theorem deepAt_le (hf : ∀ j, PForm xs j) : ∀ (n k : Nat), k < n → k < xs.length → 1 ≤ deepAt xs k ∧ deepAt xs k ≤ k + 1
  | 0, k, h, _ => by omega
  | n + 1, k, h, hk => by
    obtain ⟨h1, h2, _⟩ := hf k hk
    by_cases h0 : xs[k].base = -1
    · rw [deepAt_none hk h0]; omega
    · obtain ⟨q, hq⟩ : ∃ q : Nat, xs[k].base = q := ⟨xs[k].base.toNat, by omega⟩
      rw [deepAt_base hk (fun j _ => hf j) hq]
      have := deepAt_le hf n q (by omega) (by omega)
      omega
/-- all of text k of a pack is in order -/
def PGood (xs : List Packed) (k : Nat) : Prop := PForm xs k ∧ (getAt xs k).2 = true ∧ deepAt xs k ≤ 3
instance (xs : List Packed) (k : Nat) : Decidable (PForm xs k) := by unfold PForm; infer_instance
instance (xs : List Packed) (k : Nat) : Decidable (PGood xs k) := by unfold PGood; infer_instance
def packB (xs : List Packed) : Bool := decide ((∀ j, j < xs.length → PGood xs j) ∧ xs.length ≤ 12)
theorem packB_t (h : ∀ j, j < xs.length → PGood xs j) (h1 : xs.length ≤ 12) : packB xs = true := decide_eq_true ⟨h, h1⟩
theorem packB_f {j : Nat} (hj : j < xs.length) (h : ¬ PGood xs j) : packB xs = false := decide_eq_false fun hh => h (hh.1 j hj)
theorem packB_long (h : ¬ xs.length ≤ 12) : packB xs = false := decide_eq_false fun hh => h hh.2
theorem packB_of (h : packB xs = true) : (∀ j, j < xs.length → PGood xs j) ∧ xs.length ≤ 12 := of_decide_eq_true h

theorem doB_text {b : List ByteArray} {d : List Delta} (h : (doB b d).2 = true) : textB (doB b d).1 = true := by
  unfold doB at h ⊢
  cases ha : applyD b d [] with
  | none => rw [ha] at h; simp at h
  | some o =>
    rw [ha] at h
    simp only at h ⊢
    by_cases ht : textB o = true
    · rw [if_pos ht]; exact ht
    · rw [if_neg ht] at h; simp at h
theorem getAt_text {k : Nat} (hk : k < xs.length) (hf : ∀ j, j ≤ k → PForm xs j) (h : (getAt xs k).2 = true) : textB (getAt xs k).1 = true := by
  obtain ⟨h1, h2, _⟩ := hf k (Nat.le_refl _) hk
  by_cases h0 : xs[k].base = -1
  · rw [getAt_none hk h0] at h ⊢
    exact doB_text h
  · obtain ⟨q, hq⟩ : ∃ q : Nat, xs[k].base = q := ⟨xs[k].base.toNat, by omega⟩
    rw [getAt_base hk hf hq] at h ⊢
    by_cases hc : (getAt xs q).2 = true
    · rw [if_pos hc] at h ⊢
      exact doB_text h
    · rw [if_neg hc] at h
      cases h
/-- what unpack holds after k texts -/
def PUpto (xs : List Packed) (k : Nat) (ts : List (List ByteArray)) (ds : List Int) : Prop :=
  ts.length = k ∧ ds.length = k ∧ (∀ j, j < k → PGood xs j) ∧ (∀ j, j < k → ts.getD j [] = (getAt xs j).1) ∧ ∀ j, j < k → ds.getD j 0 = (deepAt xs j : Int)
theorem getD_app {α : Type} {l : List α} {y z : α} {j : Nat} : (l ++ [y]).getD j z = if j < l.length then l.getD j z else if j = l.length then y else z := by
  simp only [List.getD_eq_getElem?_getD]
  by_cases h : j < l.length
  · rw [if_pos h, List.getElem?_append_left h]
  · rw [if_neg h, List.getElem?_append_right (by omega)]
    by_cases h2 : j = l.length
    · rw [if_pos h2]; simp [h2]
    · rw [if_neg h2, List.getElem?_eq_none (by simp; omega)]; rfl
theorem unpF_is : ∀ (m k : Nat) (ts : List (List ByteArray)) (ds : List Int), m + k = xs.length → PUpto xs k ts ds →
    (∃ ts' ds', unpF (xs.drop k) ts ds = some ts' ∧ PUpto xs xs.length ts' ds') ∨ (unpF (xs.drop k) ts ds = none ∧ ∃ j, j < xs.length ∧ ¬ PGood xs j)
  | 0, k, ts, ds, hm, hU => by
    have hk : ¬ k < xs.length := by omega
    refine .inl ⟨ts, ds, unpF_end rfl hk, ?_⟩
    have : k = xs.length := by omega
    rw [← this]; exact hU
  | m + 1, k, ts, ds, hm, hU => by
    have hk : k < xs.length := by omega
    obtain ⟨l1, l2, hg, ht, hd⟩ := hU
    have hfl : ∀ j, j < k → PForm xs j := fun j hj => (hg j hj).1
    cases hw : withinB xs[k].base (-1) ((ts.length : Int) - 1) with
    | false =>
      refine .inr ⟨unpF_bad1 rfl hk hw, k, hk, fun hG => ?_⟩
      obtain ⟨a, b, _⟩ := hG.1 hk
      rw [l1] at hw
      have := (withinB_iff _ _ _).2 ⟨a, b⟩
      rw [this] at hw; cases hw
    | true =>
      have hr := (withinB_iff _ _ _).1 hw
      rw [l1] at hr
      have hbase : baseAt xs[k] ts ds = if 0 ≤ xs[k].base then ((getAt xs xs[k].base.toNat).1, (deepAt xs xs[k].base.toNat : Int) + 1) else ([], 1) := by
        unfold baseAt
        by_cases h0 : 0 ≤ xs[k].base
        · rw [if_pos h0, if_pos h0, ht _ (by omega), hd _ (by omega)]
        · rw [if_neg h0, if_neg h0]
      have hbt : textB (baseAt xs[k] ts ds).1 = true := by
        rw [hbase]
        by_cases h0 : 0 ≤ xs[k].base
        · rw [if_pos h0]
          exact getAt_text (by omega) (fun j hj => hfl j (by omega)) (hg _ (by omega)).2.1
        · rw [if_neg h0]; rfl
      have hget : deltaB xs[k].pcs = true → getAt xs k = dDo (baseAt xs[k] ts ds).1 xs[k].pcs ∧ (deepAt xs k : Int) = (baseAt xs[k] ts ds).2 := by
        intro hdl
        have hf : ∀ j, j ≤ k → PForm xs j := fun j hj => by
          by_cases e : j < k
          · exact hfl j e
          · have : j = k := by omega
            subst this
            exact fun _ => ⟨hr.1, hr.2, hdl⟩
        rw [dDo_ok hbt hdl, hbase]
        by_cases h0 : 0 ≤ xs[k].base
        · obtain ⟨q, hq⟩ : ∃ q : Nat, xs[k].base = q := ⟨xs[k].base.toNat, by omega⟩
          rw [if_pos h0, getAt_base hk hf hq, deepAt_base hk hf hq, if_pos (hg q (by omega)).2.1, hq]
          exact ⟨rfl, by simp⟩
        · have h1 : xs[k].base = -1 := by omega
          rw [if_neg h0, getAt_none hk h1, deepAt_none hk h1]
          exact ⟨rfl, rfl⟩
      cases hdl : deltaB xs[k].pcs with
      | false =>
        refine .inr ⟨unpF_bad2 rfl hk hw (by rw [dDo_bad2 hdl]), k, hk, fun hG => ?_⟩
        have := (hG.1 hk).2.2
        rw [hdl] at this; cases this
      | true =>
        obtain ⟨e1, e2⟩ := hget hdl
        cases hdo : (dDo (baseAt xs[k] ts ds).1 xs[k].pcs).2 with
        | false =>
          refine .inr ⟨unpF_bad2 rfl hk hw hdo, k, hk, fun hG => ?_⟩
          have := hG.2.1
          rw [e1, hdo] at this; cases this
        | true =>
          by_cases h3 : 3 < (baseAt xs[k] ts ds).2
          · refine .inr ⟨unpF_bad3 rfl hk hw hdo h3, k, hk, fun hG => ?_⟩
            have := hG.2.2
            omega
          · rw [unpF_next rfl hk hw hdo h3]
            refine unpF_is m (k + 1) _ _ (by omega) ⟨by simp; omega, by simp; omega, fun j hj => ?_, fun j hj => ?_, fun j hj => ?_⟩
            · by_cases e : j < k
              · exact hg j e
              · have : j = k := by omega
                subst this
                exact ⟨fun _ => ⟨hr.1, hr.2, hdl⟩, by rw [e1]; exact hdo, by omega⟩
            · rw [getD_app, l1]
              by_cases e : j < k
              · rw [if_pos e]; exact ht j e
              · have : j = k := by omega
                subst this
                rw [if_neg e, if_pos rfl, e1]
            · rw [getD_app, l2]
              by_cases e : j < k
              · rw [if_pos e]; exact hd j e
              · have : j = k := by omega
                subst this
                rw [if_neg e, if_pos rfl, e2]
theorem unp_is (xs : List Packed) : (packB xs = true ∧ ∃ ts, unp xs = some ts ∧ ts.length = xs.length ∧ ∀ j, j < xs.length → ts.getD j [] = (getAt xs j).1) ∨ (packB xs = false ∧ unp xs = none) := by
  by_cases h12 : 12 < xs.length
  · exact .inr ⟨packB_long (by omega), by rw [unp, if_pos h12]⟩
  · rcases unpF_is (xs := xs) xs.length 0 [] [] rfl ⟨rfl, rfl, fun j hj => by omega, fun j hj => by omega, fun j hj => by omega⟩ with ⟨ts, ds, h1, h2⟩ | ⟨h1, j, hj, hn⟩
    · refine .inl ⟨packB_t h2.2.2.1 (by omega), ts, ?_, h2.1, h2.2.2.2.1⟩
      rw [unp, if_neg h12]; exact h1
    · refine .inr ⟨packB_f hj hn, ?_⟩
      rw [unp, if_neg h12]; exact h1
theorem unp_ok (xs : List Packed) : (unp xs).isSome = packB xs := by
  rcases unp_is xs with ⟨h, ts, h1, _⟩ | ⟨h, h1⟩ <;> rw [h, h1] <;> rfl
end
end Go.Vc
