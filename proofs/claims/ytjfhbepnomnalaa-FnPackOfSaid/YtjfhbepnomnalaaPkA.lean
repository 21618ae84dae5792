/-
  Plain functions: the texts of a pack. No program is in sight here. / Plain functions: a text of a pack, by its chain; that both ways of reading a pack are one. No program is in sight here. / Plain functions: a pack of texts. No program is in sight here.
-/
import Derived.Test.YtjfhbepnomnalaaPlain5
import Derived.Test.YtjfhbepnomnalaaPacked0
set_option linter.unusedVariables false
namespace Go.Vc

/-- what one is made of, and how deep it is -/
def baseAt (p : Packed) (ts : List (List ByteArray)) (ds : List Int) : List ByteArray × Int :=
  if 0 ≤ p.base then (ts.getD p.base.toNat [], ds.getD p.base.toNat 0 + 1) else ([], 1)
def unpF : List Packed → List (List ByteArray) → List Int → Option (List (List ByteArray))
  | [], ts, _ => some ts
  | p :: r, ts, ds =>
    if withinB p.base (-1) ((ts.length : Int) - 1) = true then
      if (dDo (baseAt p ts ds).1 p.pcs).2 = true then
        if 3 < (baseAt p ts ds).2 then none else unpF r (ts ++ [(dDo (baseAt p ts ds).1 p.pcs).1]) (ds ++ [(baseAt p ts ds).2])
      else none
    else none
def unp (p : List Packed) : Option (List (List ByteArray)) := if 12 < p.length then none else unpF p [] []
section
variable {p : List Packed} {k : Nat} {ts : List (List ByteArray)} {ds : List Int} {r : Option (List (List ByteArray))}
theorem unpF_end (H : r = unpF (p.drop k) ts ds) (h : ¬ k < p.length) : r = some ts := by rw [H, drop_nil p k h, unpF]
theorem unpF_bad1 (H : r = unpF (p.drop k) ts ds) (h : k < p.length) (h1 : withinB p[k].base (-1) ((ts.length : Int) - 1) = false) : r = none := by
  rw [H, drop_cons p k h, unpF, if_neg (by rw [h1]; simp)]
theorem unpF_bad2 (H : r = unpF (p.drop k) ts ds) (h : k < p.length) (h1 : withinB p[k].base (-1) ((ts.length : Int) - 1) = true) (h2 : (dDo (baseAt p[k] ts ds).1 p[k].pcs).2 = false) : r = none := by
  rw [H, drop_cons p k h, unpF, if_pos h1, if_neg (by rw [h2]; simp)]
theorem unpF_bad3 (H : r = unpF (p.drop k) ts ds) (h : k < p.length) (h1 : withinB p[k].base (-1) ((ts.length : Int) - 1) = true) (h2 : (dDo (baseAt p[k] ts ds).1 p[k].pcs).2 = true) (h3 : 3 < (baseAt p[k] ts ds).2) : r = none := by
  rw [H, drop_cons p k h, unpF, if_pos h1, if_pos h2, if_pos h3]
theorem unpF_next (H : r = unpF (p.drop k) ts ds) (h : k < p.length) (h1 : withinB p[k].base (-1) ((ts.length : Int) - 1) = true) (h2 : (dDo (baseAt p[k] ts ds).1 p[k].pcs).2 = true) (h3 : ¬ 3 < (baseAt p[k] ts ds).2) :
    r = unpF (p.drop (k + 1)) (ts ++ [(dDo (baseAt p[k] ts ds).1 p[k].pcs).1]) (ds ++ [(baseAt p[k] ts ds).2]) := by
  rw [H, drop_cons p k h, unpF, if_pos h1, if_pos h2, if_neg h3]
end
end Go.Vc
namespace Go.Vc

/-- piece k of a pack is in order -/
def PForm (xs : List Packed) (k : Nat) : Prop := ∀ h : k < xs.length, -1 ≤ xs[k].base ∧ xs[k].base ≤ (k : Int) - 1 ∧ deltaB xs[k].pcs = true
def getN (xs : List Packed) : Nat → Nat → List ByteArray × Bool
  | 0, _ => ([], false)
  | n + 1, k => match xs[k]? with
    | none => ([], false)
    | some p => if 0 ≤ p.base then (if (getN xs n p.base.toNat).2 = true then doB (getN xs n p.base.toNat).1 p.pcs else ([], false)) else doB [] p.pcs
def deepN (xs : List Packed) : Nat → Nat → Nat
  | 0, _ => 1
  | n + 1, k => match xs[k]? with
    | none => 1
    | some p => if 0 ≤ p.base then deepN xs n p.base.toNat + 1 else 1
def getAt (xs : List Packed) (k : Nat) : List ByteArray × Bool := getN xs (k + 1) k
def deepAt (xs : List Packed) (k : Nat) : Nat := deepN xs (k + 1) k
section
variable {xs : List Packed}
theorem getN_fuel : ∀ (n k : Nat), k < n → (∀ j, j ≤ k → PForm xs j) → getN xs n k = getAt xs k
  | 0, k, h, _ => by omega
  | n + 1, k, h, hf => by
    unfold getAt
    rw [getN, getN]
    by_cases hk : k < xs.length
    · rw [List.getElem?_eq_getElem hk]
      simp only
      obtain ⟨h1, h2, _⟩ := hf k (Nat.le_refl _) hk
      by_cases h0 : 0 ≤ xs[k].base
      · have hb : xs[k].base.toNat < k := by omega
        rw [getN_fuel n xs[k].base.toNat (by omega) (fun j hj => hf j (by omega))]
        have e : getN xs k xs[k].base.toNat = getAt xs xs[k].base.toNat := getN_fuel k _ hb (fun j hj => hf j (by omega))
        rw [e]
      · rw [if_neg h0, if_neg h0]
    · rw [List.getElem?_eq_none (by omega)]
  termination_by n k => (n, k)
theorem deepN_fuel : ∀ (n k : Nat), k < n → (∀ j, j ≤ k → PForm xs j) → deepN xs n k = deepAt xs k
  | 0, k, h, _ => by omega
  | n + 1, k, h, hf => by
    unfold deepAt
    rw [deepN, deepN]
    by_cases hk : k < xs.length
    · rw [List.getElem?_eq_getElem hk]
      simp only
      obtain ⟨h1, h2, _⟩ := hf k (Nat.le_refl _) hk
      by_cases h0 : 0 ≤ xs[k].base
      · have hb : xs[k].base.toNat < k := by omega
        rw [deepN_fuel n xs[k].base.toNat (by omega) (fun j hj => hf j (by omega))]
        have e : deepN xs k xs[k].base.toNat = deepAt xs xs[k].base.toNat := deepN_fuel k _ hb (fun j hj => hf j (by omega))
        rw [e]
      · rw [if_neg h0, if_neg h0]
    · rw [List.getElem?_eq_none (by omega)]
  termination_by n k => (n, k)
theorem getAt_base {k : Nat} (hk : k < xs.length) (hf : ∀ j, j ≤ k → PForm xs j) {q : Nat} (hq : xs[k].base = q) :
    getAt xs k = if (getAt xs q).2 = true then doB (getAt xs q).1 xs[k].pcs else ([], false) := by
  have hb := (hf k (Nat.le_refl _) hk).2.1
  rw [getAt, getN, List.getElem?_eq_getElem hk]
  simp only
  rw [hq, if_pos (by omega), Int.toNat_natCast, getN_fuel k q (by omega) (fun j hj => hf j (by omega))]
theorem getAt_none {k : Nat} (hk : k < xs.length) (hq : xs[k].base = -1) : getAt xs k = doB [] xs[k].pcs := by
  rw [getAt, getN, List.getElem?_eq_getElem hk]
  simp only
  rw [hq, if_neg (by omega)]
theorem deepAt_base {k : Nat} (hk : k < xs.length) (hf : ∀ j, j ≤ k → PForm xs j) {q : Nat} (hq : xs[k].base = q) : deepAt xs k = deepAt xs q + 1 := by
  have hb := (hf k (Nat.le_refl _) hk).2.1
  rw [deepAt, deepN, List.getElem?_eq_getElem hk]
  simp only
  rw [hq, if_pos (by omega), Int.toNat_natCast, deepN_fuel k q (by omega) (fun j hj => hf j (by omega))]
theorem deepAt_none {k : Nat} (hk : k < xs.length) (hq : xs[k].base = -1) : deepAt xs k = 1 := by
  rw [deepAt, deepN, List.getElem?_eq_getElem hk]
  simp only
  rw [hq, if_neg (by omega)]
theorem deepAt_le (hf : ∀ j, PForm xs j) : ∀ (n k : Nat), k < n → k < xs.length → 1 ≤ deepAt xs k ∧ deepAt xs k ≤ k + 1
  | 0, k, h, _ => by omega
  | n + 1, k, h, hk => by
    obtain ⟨h1, h2, _⟩ := hf k hk
    by_cases h0 : xs[k].base = -1
    · rw [deepAt_none hk h0]; omega
    · obtain ⟨q, hq⟩ : ∃ q : Nat, xs[k].base = q := ⟨xs[k].base.toNat, by omega⟩
      rw [deepAt_base hk (fun j _ => hf j) hq]
      have := deepAt_le hf n q (by omega) (by omega)
      omega
/-- all of text k of a pack is in order -/
def PGood (xs : List Packed) (k : Nat) : Prop := PForm xs k ∧ (getAt xs k).2 = true ∧ deepAt xs k ≤ 3
instance (xs : List Packed) (k : Nat) : Decidable (PForm xs k) := by unfold PForm; infer_instance
instance (xs : List Packed) (k : Nat) : Decidable (PGood xs k) := by unfold PGood; infer_instance
def packB (xs : List Packed) : Bool := decide ((∀ j, j < xs.length → PGood xs j) ∧ xs.length ≤ 12)
theorem packB_t (h : ∀ j, j < xs.length → PGood xs j) (h1 : xs.length ≤ 12) : packB xs = true := decide_eq_true ⟨h, h1⟩
theorem packB_f {j : Nat} (hj : j < xs.length) (h : ¬ PGood xs j) : packB xs = false := decide_eq_false fun hh => h (hh.1 j hj)
theorem packB_long (h : ¬ xs.length ≤ 12) : packB xs = false := decide_eq_false fun hh => h hh.2
theorem packB_of (h : packB xs = true) : (∀ j, j < xs.length → PGood xs j) ∧ xs.length ≤ 12 := of_decide_eq_true h

theorem doB_text {b : List ByteArray} {d : List Delta} (h : (doB b d).2 = true) : textB (doB b d).1 = true := by
  unfold doB at h ⊢
  cases ha : applyD b d [] with
  | none => rw [ha] at h; simp at h
  | some o =>
    rw [ha] at h
    simp only at h ⊢
    by_cases ht : textB o = true
    · rw [if_pos ht]; exact ht
    · rw [if_neg ht] at h; simp at h
theorem getAt_text {k : Nat} (hk : k < xs.length) (hf : ∀ j, j ≤ k → PForm xs j) (h : (getAt xs k).2 = true) : textB (getAt xs k).1 = true := by
  obtain ⟨h1, h2, _⟩ := hf k (Nat.le_refl _) hk
  by_cases h0 : xs[k].base = -1
  · rw [getAt_none hk h0] at h ⊢
    exact doB_text h
  · obtain ⟨q, hq⟩ : ∃ q : Nat, xs[k].base = q := ⟨xs[k].base.toNat, by omega⟩
    rw [getAt_base hk hf hq] at h ⊢
    by_cases hc : (getAt xs q).2 = true
    · rw [if_pos hc] at h ⊢
      exact doB_text h
    · rw [if_neg hc] at h
      cases h
/-- what unpack holds after k texts -/
def PUpto (xs : List Packed) (k : Nat) (ts : List (List ByteArray)) (ds : List Int) : Prop :=
  ts.length = k ∧ ds.length = k ∧ (∀ j, j < k → PGood xs j) ∧ (∀ j, j < k → ts.getD j [] = (getAt xs j).1) ∧ ∀ j, j < k → ds.getD j 0 = (deepAt xs j : Int)
theorem getD_app {α : Type} {l : List α} {y z : α} {j : Nat} : (l ++ [y]).getD j z = if j < l.length then l.getD j z else if j = l.length then y else z := by
  simp only [List.getD_eq_getElem?_getD]
  by_cases h : j < l.length
  · rw [if_pos h, List.getElem?_append_left h]
  · rw [if_neg h, List.getElem?_append_right (by omega)]
    by_cases h2 : j = l.length
    · rw [if_pos h2]; simp [h2]
    · rw [if_neg h2, List.getElem?_eq_none (by simp; omega)]; rfl
theorem unpF_is : ∀ (m k : Nat) (ts : List (List ByteArray)) (ds : List Int), m + k = xs.length → PUpto xs k ts ds →
    (∃ ts' ds', unpF (xs.drop k) ts ds = some ts' ∧ PUpto xs xs.length ts' ds') ∨ (unpF (xs.drop k) ts ds = none ∧ ∃ j, j < xs.length ∧ ¬ PGood xs j)
  | 0, k, ts, ds, hm, hU => by
    have hk : ¬ k < xs.length := by omega
    refine .inl ⟨ts, ds, unpF_end rfl hk, ?_⟩
    have : k = xs.length := by omega
    rw [← this]; exact hU
  | m + 1, k, ts, ds, hm, hU => by
    have hk : k < xs.length := by omega
    obtain ⟨l1, l2, hg, ht, hd⟩ := hU
    have hfl : ∀ j, j < k → PForm xs j := fun j hj => (hg j hj).1
    cases hw : withinB xs[k].base (-1) ((ts.length : Int) - 1) with
    | false =>
      refine .inr ⟨unpF_bad1 rfl hk hw, k, hk, fun hG => ?_⟩
      obtain ⟨a, b, _⟩ := hG.1 hk
      rw [l1] at hw
      have := (withinB_iff _ _ _).2 ⟨a, b⟩
      rw [this] at hw; cases hw
    | true =>
      have hr := (withinB_iff _ _ _).1 hw
      rw [l1] at hr
      have hbase : baseAt xs[k] ts ds = if 0 ≤ xs[k].base then ((getAt xs xs[k].base.toNat).1, (deepAt xs xs[k].base.toNat : Int) + 1) else ([], 1) := by
        unfold baseAt
        by_cases h0 : 0 ≤ xs[k].base
        · rw [if_pos h0, if_pos h0, ht _ (by omega), hd _ (by omega)]
        · rw [if_neg h0, if_neg h0]
      have hbt : textB (baseAt xs[k] ts ds).1 = true := by
        rw [hbase]
        by_cases h0 : 0 ≤ xs[k].base
        · rw [if_pos h0]
          exact getAt_text (by omega) (fun j hj => hfl j (by omega)) (hg _ (by omega)).2.1
        · rw [if_neg h0]; rfl
      have hget : deltaB xs[k].pcs = true → getAt xs k = dDo (baseAt xs[k] ts ds).1 xs[k].pcs ∧ (deepAt xs k : Int) = (baseAt xs[k] ts ds).2 := by
        intro hdl
        have hf : ∀ j, j ≤ k → PForm xs j := fun j hj => by
          by_cases e : j < k
          · exact hfl j e
          · have : j = k := by omega
            subst this
            exact fun _ => ⟨hr.1, hr.2, hdl⟩
        rw [dDo_ok hbt hdl, hbase]
        by_cases h0 : 0 ≤ xs[k].base
        · obtain ⟨q, hq⟩ : ∃ q : Nat, xs[k].base = q := ⟨xs[k].base.toNat, by omega⟩
          rw [if_pos h0, getAt_base hk hf hq, deepAt_base hk hf hq, if_pos (hg q (by omega)).2.1, hq]
          exact ⟨rfl, by simp⟩
        · have h1 : xs[k].base = -1 := by omega
          rw [if_neg h0, getAt_none hk h1, deepAt_none hk h1]
          exact ⟨rfl, rfl⟩
      cases hdl : deltaB xs[k].pcs with
      | false =>
        refine .inr ⟨unpF_bad2 rfl hk hw (by rw [dDo_bad2 hdl]), k, hk, fun hG => ?_⟩
        have := (hG.1 hk).2.2
        rw [hdl] at this; cases this
      | true =>
        obtain ⟨e1, e2⟩ := hget hdl
        cases hdo : (dDo (baseAt xs[k] ts ds).1 xs[k].pcs).2 with
        | false =>
          refine .inr ⟨unpF_bad2 rfl hk hw hdo, k, hk, fun hG => ?_⟩
          have := hG.2.1
          rw [e1, hdo] at this; cases this
        | true =>
          by_cases h3 : 3 < (baseAt xs[k] ts ds).2
          · refine .inr ⟨unpF_bad3 rfl hk hw hdo h3, k, hk, fun hG => ?_⟩
            have := hG.2.2
            omega
          · rw [unpF_next rfl hk hw hdo h3]
            refine unpF_is m (k + 1) _ _ (by omega) ⟨by simp; omega, by simp; omega, fun j hj => ?_, fun j hj => ?_, fun j hj => ?_⟩
            · by_cases e : j < k
              · exact hg j e
              · have : j = k := by omega
                subst this
                exact ⟨fun _ => ⟨hr.1, hr.2, hdl⟩, by rw [e1]; exact hdo, by omega⟩
            · rw [getD_app, l1]
              by_cases e : j < k
              · rw [if_pos e]; exact ht j e
              · have : j = k := by omega
                subst this
                rw [if_neg e, if_pos rfl, e1]
            · rw [getD_app, l2]
              by_cases e : j < k
              · rw [if_pos e]; exact hd j e
              · have : j = k := by omega
                subst this
                rw [if_neg e, if_pos rfl, e2]
theorem unp_is (xs : List Packed) : (packB xs = true ∧ ∃ ts, unp xs = some ts ∧ ts.length = xs.length ∧ ∀ j, j < xs.length → ts.getD j [] = (getAt xs j).1) ∨ (packB xs = false ∧ unp xs = none) := by
  by_cases h12 : 12 < xs.length
  · exact .inr ⟨packB_long (by omega), by rw [unp, if_pos h12]⟩
  · rcases unpF_is (xs := xs) xs.length 0 [] [] rfl ⟨rfl, rfl, fun j hj => by omega, fun j hj => by omega, fun j hj => by omega⟩ with ⟨ts, ds, h1, h2⟩ | ⟨h1, j, hj, hn⟩
    · refine .inl ⟨packB_t h2.2.2.1 (by omega), ts, ?_, h2.1, h2.2.2.2.1⟩
      rw [unp, if_neg h12]; exact h1
    · refine .inr ⟨packB_f hj hn, ?_⟩
      rw [unp, if_neg h12]; exact h1
theorem unp_ok (xs : List Packed) : (unp xs).isSome = packB xs := by
  rcases unp_is xs with ⟨h, ts, h1, _⟩ | ⟨h, h1⟩ <;> rw [h, h1] <;> rfl
end
end Go.Vc
namespace Go.Vc

def sizeD (ds : List Delta) : Nat := ds.length + bsum (fun d => d.lines.length) ds
/-- by which of the texts ahead of it one is best made, and how deep it is -/
def bestL (t : List ByteArray) : List (List ByteArray) → List Int → Nat → Packed × Int → Packed × Int
  | b :: bs, z :: zs, k, c => bestL t bs zs (k + 1) (if z < 3 ∧ sizeD (deltaOf b t) < sizeD c.1.pcs then (⟨k, deltaOf b t⟩, z + 1) else c)
  | _, _, _, c => c
def best0 (t : List ByteArray) : Packed × Int := (⟨-1, deltaOf [] t⟩, 1)
def packF : List (List ByteArray) → List (List ByteArray) → List Packed → List Int → List Packed
  | [], _, out, _ => out
  | t :: r, done, out, ds => packF r (done ++ [t]) (out ++ [(bestL t done ds 0 (best0 t)).1]) (ds ++ [(bestL t done ds 0 (best0 t)).2])
def packOf (l : List (List ByteArray)) : List Packed := if 12 < l.length then [] else if l.all textB = true then packF l [] [] [] else []

section
variable {t : List ByteArray} {done : List (List ByteArray)} {ds : List Int} {k : Nat} {c r : Packed × Int}
theorem bestL_end (H : r = bestL t (done.drop k) (ds.drop k) k c) (h : ¬ k < done.length) : r = c := by
  rw [H, drop_nil done k h]
  rfl
theorem bestL_next (H : r = bestL t (done.drop k) (ds.drop k) k c) (h : k < done.length) (h' : k < ds.length) :
    r = bestL t (done.drop (k + 1)) (ds.drop (k + 1)) (k + 1) (if ds[k] < 3 ∧ sizeD (deltaOf done[k] t) < sizeD c.1.pcs then (⟨k, deltaOf done[k] t⟩, ds[k] + 1) else c) := by
  rw [H, drop_cons done k h, drop_cons ds k h', bestL]
theorem bestL_skip (H : r = bestL t (done.drop k) (ds.drop k) k c) (h : k < done.length) (h' : k < ds.length) (hc : ¬ (ds[k] < 3 ∧ sizeD (deltaOf done[k] t) < sizeD c.1.pcs)) :
    r = bestL t (done.drop (k + 1)) (ds.drop (k + 1)) (k + 1) c := by
  have := bestL_next H h h'
  rw [if_neg hc] at this
  exact this
theorem bestL_take (H : r = bestL t (done.drop k) (ds.drop k) k c) (h : k < done.length) (h' : k < ds.length) (hc : ds[k] < 3 ∧ sizeD (deltaOf done[k] t) < sizeD c.1.pcs) :
    r = bestL t (done.drop (k + 1)) (ds.drop (k + 1)) (k + 1) (⟨k, deltaOf done[k] t⟩, ds[k] + 1) := by
  have := bestL_next H h h'
  rw [if_pos hc] at this
  exact this
end
/-- what the best one is -/
def BestI (t : List ByteArray) (done : List (List ByteArray)) (ds : List Int) (c : Packed × Int) : Prop :=
  sizeD c.1.pcs ≤ sizeD (deltaOf [] t) ∧ (c = best0 t ∨ ∃ (q : Nat) (z : Int) (b : List ByteArray), done[q]? = some b ∧ ds[q]? = some z ∧ z < 3 ∧ c = (⟨q, deltaOf b t⟩, z + 1))
theorem bestI_start (t : List ByteArray) (done : List (List ByteArray)) (ds : List Int) : BestI t done ds (best0 t) := ⟨Nat.le_refl _, .inl rfl⟩
theorem bestI_take {t : List ByteArray} {done : List (List ByteArray)} {ds : List Int} {c : Packed × Int} (hI : BestI t done ds c) {k : Nat} (h : k < done.length) (h' : k < ds.length) (hc : ds[k] < 3 ∧ sizeD (deltaOf done[k] t) < sizeD c.1.pcs) :
    BestI t done ds (⟨k, deltaOf done[k] t⟩, ds[k] + 1) :=
  ⟨by have := hI.1; simp only; omega, .inr ⟨k, ds[k], done[k], List.getElem?_eq_getElem h, List.getElem?_eq_getElem h', hc.1, rfl⟩⟩
theorem bestL_I {t : List ByteArray} {done : List (List ByteArray)} {ds : List Int} : ∀ (m k : Nat) (c : Packed × Int), m + k = done.length → done.length = ds.length → BestI t done ds c → BestI t done ds (bestL t (done.drop k) (ds.drop k) k c)
  | 0, k, c, hm, _, hI => by
    rw [bestL_end rfl (by omega)]
    exact hI
  | m + 1, k, c, hm, hl, hI => by
    rw [bestL_next rfl (by omega) (by omega)]
    refine bestL_I m (k + 1) _ (by omega) hl ?_
    by_cases hc : ds[k]'(by omega) < 3 ∧ sizeD (deltaOf (done[k]'(by omega)) t) < sizeD c.1.pcs
    · rw [if_pos hc]
      exact bestI_take hI (by omega) (by omega) hc
    · rw [if_neg hc]
      exact hI
/-- a text behind others changes nothing ahead of it -/
theorem pform_app {out : List Packed} {p : Packed} {j : Nat} (hj : j < out.length) : PForm (out ++ [p]) j ↔ PForm out j := by
  unfold PForm
  constructor
  · intro h hl
    have := h (by simp; omega)
    rw [List.getElem_append_left hl] at this
    exact this
  · intro h hl
    rw [List.getElem_append_left hj]
    exact h hj
theorem getAt_app {out : List Packed} {p : Packed} (hf : ∀ j, j < out.length → PForm out j) : ∀ (n j : Nat), j < n → j < out.length → getAt (out ++ [p]) j = getAt out j ∧ deepAt (out ++ [p]) j = deepAt out j
  | 0, j, h, _ => by omega
  | n + 1, j, h, hj => by
    have hj' : j < (out ++ [p]).length := by simp; omega
    have hb : (out ++ [p])[j] = out[j] := List.getElem_append_left hj
    obtain ⟨h1, h2, _⟩ := hf j hj hj
    have hf' : ∀ i, i ≤ j → PForm (out ++ [p]) i := fun i hi => (pform_app (by omega)).2 (hf i (by omega))
    by_cases h0 : out[j].base = -1
    · rw [getAt_none hj' (by rw [hb]; exact h0), getAt_none hj h0, deepAt_none hj' (by rw [hb]; exact h0), deepAt_none hj h0, hb]
      exact ⟨rfl, rfl⟩
    · obtain ⟨q, hq⟩ : ∃ q : Nat, out[j].base = q := ⟨out[j].base.toNat, by omega⟩
      obtain ⟨i1, i2⟩ := getAt_app hf n q (by omega) (by omega)
      rw [getAt_base hj' hf' (by rw [hb]; exact hq), getAt_base hj (fun i hi => hf i (by omega)) hq, deepAt_base hj' hf' (by rw [hb]; exact hq), deepAt_base hj (fun i hi => hf i (by omega)) hq, hb, i1, i2]
      exact ⟨rfl, rfl⟩
/-- what is known of a pack half made -/
def PkI (l : List (List ByteArray)) (k : Nat) (out : List Packed) (ds : List Int) : Prop :=
  out.length = k ∧ ds.length = k ∧ (∀ j, j < k → PForm out j) ∧ (∀ j, j < k → getAt out j = (l.getD j [], true)) ∧ (∀ j, j < k → ds.getD j 0 = (deepAt out j : Int) ∧ deepAt out j ≤ 3) ∧
    ∀ j (h : j < out.length), sizeD out[j].pcs ≤ sizeD (deltaOf [] (l.getD j []))
theorem pkI_start (l : List (List ByteArray)) : PkI l 0 [] [] := ⟨rfl, rfl, fun j h => by omega, fun j h => by omega, fun j h => by omega, fun j h => by simp at h⟩
theorem doB_of {base t : List ByteArray} (hb : textB base = true) (ht : textB t = true) : doB base (deltaOf base t) = (t, true) := by
  have := do_of hb ht
  rw [dDo_ok hb (deltaOf_ok hb ht)] at this
  exact this
theorem getD_at {α : Type} {l : List α} {z : α} {j : Nat} (h : j < l.length) : l.getD j z = l[j] := by rw [List.getD_eq_getElem?_getD, List.getElem?_eq_getElem h]; rfl
theorem pkI_next {l : List (List ByteArray)} {k : Nat} {out : List Packed} {ds : List Int} (hI : PkI l k out ds) (hk : k < l.length) (ht : ∀ j, j ≤ k → textB (l.getD j []) = true) {c : Packed × Int} (hB : BestI l[k] (l.take k) ds c) :
    PkI l (k + 1) (out ++ [c.1]) (ds ++ [c.2]) := by
  obtain ⟨l1, l2, hf, hg, hd, hs⟩ := hI
  have hfo : ∀ j, j < out.length → PForm out j := fun j hj => hf j (by omega)
  have hkt : textB l[k] = true := by have := ht k (Nat.le_refl _); rw [getD_at hk] at this; exact this
  have hlk : (out ++ [c.1])[k]'(by simp; omega) = c.1 := by
    rw [List.getElem_append_right (by omega)]
    simp [l1]
  have hpk : -1 ≤ c.1.base ∧ c.1.base ≤ (k : Int) - 1 ∧ deltaB c.1.pcs = true := by
    rcases hB.2 with h | ⟨q, z, b, h1, h2, h3, h4⟩
    · rw [h]
      exact ⟨by simp [best0], by simp [best0]; omega, deltaOf_ok rfl hkt⟩
    · rw [h4]
      obtain ⟨hq, hqb⟩ := List.getElem?_eq_some_iff.1 h1
      simp only [List.length_take] at hq
      rw [List.getElem_take] at hqb
      have := ht q (by omega)
      rw [getD_at (by omega), hqb] at this
      exact ⟨by simp only; omega, by simp only; omega, deltaOf_ok this hkt⟩
  have hform : ∀ j, j < k + 1 → PForm (out ++ [c.1]) j := fun j hj => by
    by_cases e : j < k
    · exact (pform_app (by omega)).2 (hf j e)
    · have : j = k := by omega
      subst this
      intro h
      rw [hlk]
      exact hpk
  have hgk : getAt (out ++ [c.1]) k = (l.getD k [], true) ∧ c.2 = (deepAt (out ++ [c.1]) k : Int) ∧ deepAt (out ++ [c.1]) k ≤ 3 := by
    have hlt : k < (out ++ [c.1]).length := by simp; omega
    rw [getD_at hk]
    rcases hB.2 with h | ⟨q, z, b, h1, h2, h3, h4⟩
    · have hb : (out ++ [c.1])[k].base = -1 := by rw [hlk, h]; rfl
      rw [getAt_none hlt hb, deepAt_none hlt hb, hlk, h]
      exact ⟨doB_of rfl hkt, by simp [best0], by omega⟩
    · have hb : (out ++ [c.1])[k].base = (q : Int) := by rw [hlk, h4]
      obtain ⟨hq, hqb⟩ := List.getElem?_eq_some_iff.1 h1
      simp only [List.length_take] at hq
      rw [List.getElem_take] at hqb
      have hqt := ht q (by omega)
      rw [getD_at (by omega), hqb] at hqt
      obtain ⟨i1, i2⟩ := getAt_app (p := c.1) hfo (q + 1) q (by omega) (by omega)
      have hz : ds.getD q 0 = z := by rw [List.getD_eq_getElem?_getD, h2]; rfl
      have hdq := hd q (by omega)
      rw [hz] at hdq
      rw [getAt_base hlt (fun j hj => hform j (by omega)) hb, deepAt_base hlt (fun j hj => hform j (by omega)) hb, i1, i2, hg q (by omega), if_pos rfl, hlk, getD_at (by omega), hqb, h4]
      exact ⟨doB_of hqt hkt, by simp only; omega, by omega⟩
  refine ⟨by simp; omega, by simp; omega, hform, fun j hj => ?_, fun j hj => ?_, fun j hj => ?_⟩
  · by_cases e : j < k
    · rw [(getAt_app hfo (j + 1) j (by omega) (by omega)).1]
      exact hg j e
    · have : j = k := by omega
      subst this
      exact hgk.1
  · by_cases e : j < k
    · rw [(getAt_app hfo (j + 1) j (by omega) (by omega)).2, getD_app, if_pos (by omega)]
      exact hd j e
    · have : j = k := by omega
      subst this
      rw [getD_app, if_neg (by omega), if_pos (by omega)]
      exact ⟨hgk.2.1, hgk.2.2⟩
  · by_cases e : j < k
    · rw [List.getElem_append_left (by omega)]
      exact hs j (by omega)
    · have hjk : j = k := by simp at hj; omega
      subst hjk
      rw [hlk, getD_at hk]
      exact hB.1
theorem packF_I {l : List (List ByteArray)} (ht : ∀ j, j < l.length → textB (l.getD j []) = true) : ∀ (m k : Nat) (out : List Packed) (ds : List Int), m + k = l.length → PkI l k out ds → ∃ ds', PkI l l.length (packF (l.drop k) (l.take k) out ds) ds'
  | 0, k, out, ds, hm, hI => by
    rw [drop_nil l k (by omega), packF]
    have : k = l.length := by omega
    subst this
    exact ⟨ds, hI⟩
  | m + 1, k, out, ds, hm, hI => by
    have hk : k < l.length := by omega
    rw [drop_cons l k hk, packF]
    have hB := bestL_I (t := l[k]) (done := l.take k) (ds := ds) (l.take k).length 0 (best0 l[k]) (by omega) (by simp [hI.2.1]; omega) (bestI_start _ _ _)
    simp only [List.drop_zero] at hB
    have := packF_I ht m (k + 1) _ _ (by omega) (pkI_next hI hk (fun j hj => ht j (by omega)) hB)
    rw [List.take_succ_eq_append_getElem hk] at this
    exact this
theorem packF_next {l : List (List ByteArray)} {k : Nat} {out r : List Packed} {ds : List Int} {c : Packed × Int} (H : r = packF (l.drop k) (l.take k) out ds) (h : k < l.length) (hc : bestL l[k] (l.take k) ds 0 (best0 l[k]) = c) :
    r = packF (l.drop (k + 1)) (l.take (k + 1)) (out ++ [c.1]) (ds ++ [c.2]) := by
  rw [H, drop_cons l k h, packF, hc, List.take_succ_eq_append_getElem h]
theorem packF_end {l : List (List ByteArray)} {k : Nat} {out r : List Packed} {ds : List Int} (H : r = packF (l.drop k) (l.take k) out ds) (h : ¬ k < l.length) : r = out := by
  rw [H, drop_nil l k h, packF]
theorem texts_at {l : List (List ByteArray)} (h : l.all textB = true) (j : Nat) (hj : j < l.length) : textB (l.getD j []) = true := by
  rw [getD_at hj]
  exact (List.all_eq_true.1 h) _ (List.getElem_mem hj)
theorem packOf_I {l : List (List ByteArray)} (h : l.length ≤ 12) (ht : l.all textB = true) : ∃ ds, PkI l l.length (packOf l) ds := by
  have := packF_I (texts_at ht) l.length 0 [] [] rfl (pkI_start l)
  rw [packOf, if_neg (by omega), if_pos ht]
  exact this
theorem packOf_packB (l : List (List ByteArray)) : packB (packOf l) = true := by
  by_cases h : 12 < l.length
  · rw [packOf, if_pos h]; rfl
  · by_cases ht : l.all textB = true
    · obtain ⟨ds, l1, _, hf, hg, hd, _⟩ := packOf_I (by omega) ht
      refine packB_t (fun j hj => ⟨hf j (by omega), by rw [hg j (by omega)], (hd j (by omega)).2⟩) (by omega)
    · rw [packOf, if_neg h, if_neg ht]; rfl
end Go.Vc
