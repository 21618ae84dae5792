/-
  Plain functions: a pack of texts. No program is in sight here.
-/
import Derived.Test.YtjfhbepnomnalaaPkQ
set_option linter.unusedVariables false
namespace Go.Vc

def sizeD (ds : List Delta) : Nat := ds.length + bsum (fun d => d.lines.length) ds
/-- by which of the texts ahead of it one is best made, and how deep it is -/
def bestL (t : List ByteArray) : List (List ByteArray) → List Int → Nat → Packed × Int → Packed × Int
  | b :: bs, z :: zs, k, c => bestL t bs zs (k + 1) (if z < 3 ∧ sizeD (deltaOf b t) < sizeD c.1.pcs then (⟨k, deltaOf b t⟩, z + 1) else c)
  | _, _, _, c => c
def best0 (t : List ByteArray) : Packed × Int := (⟨-1, deltaOf [] t⟩, 1)
def packF : List (List ByteArray) → List (List ByteArray) → List Packed → List Int → List Packed
  | [], _, out, _ => out
  | t :: r, done, out, ds => packF r (done ++ [t]) (out ++ [(bestL t done ds 0 (best0 t)).1]) (ds ++ [(bestL t done ds 0 (best0 t)).2])
def packOf (l : List (List ByteArray)) : List Packed := if 12 < l.length then [] else if l.all textB = true then packF l [] [] [] else []

section
variable {t : List ByteArray} {done : List (List ByteArray)} {ds : List Int} {k : Nat} {c r : Packed × Int}
theorem bestL_end (H : r = bestL t (done.drop k) (ds.drop k) k c) (h : ¬ k < done.length) : r = c := by
  rw [H, drop_nil done k h]
  rfl
theorem bestL_next (H : r = bestL t (done.drop k) (ds.drop k) k c) (h : k < done.length) (h' : k < ds.length) :
    r = bestL t (done.drop (k + 1)) (ds.drop (k + 1)) (k + 1) (if ds[k] < 3 ∧ sizeD (deltaOf done[k] t) < sizeD c.1.pcs then (⟨k, deltaOf done[k] t⟩, ds[k] + 1) else c) := by
  rw [H, drop_cons done k h, drop_cons ds k h', bestL]
theorem bestL_skip (H : r = bestL t (done.drop k) (ds.drop k) k c) (h : k < done.length) (h' : k < ds.length) (hc : ¬ (ds[k] < 3 ∧ sizeD (deltaOf done[k] t) < sizeD c.1.pcs)) :
    r = bestL t (done.drop (k + 1)) (ds.drop (k + 1)) (k + 1) c := by
  have := bestL_next H h h'
  rw [if_neg hc] at this
  exact this
theorem bestL_take (H : r = bestL t (done.drop k) (ds.drop k) k c) (h : k < done.length) (h' : k < ds.length) (hc : ds[k] < 3 ∧ sizeD (deltaOf done[k] t) < sizeD c.1.pcs) :
    r = bestL t (done.drop (k + 1)) (ds.drop (k + 1)) (k + 1) (⟨k, deltaOf done[k] t⟩, ds[k] + 1) := by
  have := bestL_next H h h'
  rw [if_pos hc] at this
  exact this
end
/-- what the best one is -/
def BestI (t : List ByteArray) (done : List (List ByteArray)) (ds : List Int) (c : Packed × Int) : Prop :=
  sizeD c.1.pcs ≤ sizeD (deltaOf [] t) ∧ (c = best0 t ∨ ∃ (q : Nat) (z : Int) (b : List ByteArray), done[q]? = some b ∧ ds[q]? = some z ∧ z < 3 ∧ c = (⟨q, deltaOf b t⟩, z + 1))
theorem bestI_start (t : List ByteArray) (done : List (List ByteArray)) (ds : List Int) : BestI t done ds (best0 t) := ⟨Nat.le_refl _, .inl rfl⟩
theorem bestI_take {t : List ByteArray} {done : List (List ByteArray)} {ds : List Int} {c : Packed × Int} (hI : BestI t done ds c) {k : Nat} (h : k < done.length) (h' : k < ds.length) (hc : ds[k] < 3 ∧ sizeD (deltaOf done[k] t) < sizeD c.1.pcs) :
    BestI t done ds (⟨k, deltaOf done[k] t⟩, ds[k] + 1) :=
  ⟨by have := hI.1; simp only; omega, .inr ⟨k, ds[k], done[k], List.getElem?_eq_getElem h, List.getElem?_eq_getElem h', hc.1, rfl⟩⟩
theorem bestL_I {t : List ByteArray} {done : List (List ByteArray)} {ds : List Int} : ∀ (m k : Nat) (c : Packed × Int), m + k = done.length → done.length = ds.length → BestI t done ds c → BestI t done ds (bestL t (done.drop k) (ds.drop k) k c)
  | 0, k, c, hm, _, hI => by
    rw [bestL_end rfl (by omega)]
    exact hI
  | m + 1, k, c, hm, hl, hI => by
    rw [bestL_next rfl (by omega) (by omega)]
    refine bestL_I m (k + 1) _ (by omega) hl ?_
    by_cases hc : ds[k]'(by omega) < 3 ∧ sizeD (deltaOf (done[k]'(by omega)) t) < sizeD c.1.pcs
    · rw [if_pos hc]
      exact bestI_take hI (by omega) (by omega) hc
    · rw [if_neg hc]
      exact hI
/-- a text behind others changes nothing ahead of it -/
theorem pform_app {out : List Packed} {p : Packed} {j : Nat} (hj : j < out.length) : PForm (out ++ [p]) j ↔ PForm out j := by
  unfold PForm
  constructor
  · intro h hl
    have := h (by simp; omega)
    rw [List.getElem_append_left hl] at this
    exact this
  · intro h hl
    rw [List.getElem_append_left hj]
    exact h hj
theorem getAt_app {out : List Packed} {p : Packed} (hf : ∀ j, j < out.length → PForm out j) : ∀ (n j : Nat), j < n → j < out.length → getAt (out ++ [p]) j = getAt out j ∧ deepAt (out ++ [p]) j = deepAt out j
  | 0, j, h, _ => by omega
  | n + 1, j, h, hj => by
    have hj' : j < (out ++ [p]).length := by simp; omega
    have hb : (out ++ [p])[j] = out[j] := List.getElem_append_left hj
    obtain ⟨h1, h2, _⟩ := hf j hj hj
    have hf' : ∀ i, i ≤ j → PForm (out ++ [p]) i := fun i hi => (pform_app (by omega)).2 (hf i (by omega))
    by_cases h0 : out[j].base = -1
    · rw [getAt_none hj' (by rw [hb]; exact h0), getAt_none hj h0, deepAt_none hj' (by rw [hb]; exact h0), deepAt_none hj h0, hb]
      exact ⟨rfl, rfl⟩
    · obtain ⟨q, hq⟩ : ∃ q : Nat, out[j].base = q := ⟨out[j].base.toNat, by omega⟩
      obtain ⟨i1, i2⟩ := getAt_app hf n q (by omega) (by omega)
      rw [getAt_base hj' hf' (by rw [hb]; exact hq), getAt_base hj (fun i hi => hf i (by omega)) hq, deepAt_base hj' hf' (by rw [hb]; exact hq), deepAt_base hj (fun i hi => hf i (by omega)) hq, hb, i1, i2]
      exact ⟨rfl, rfl⟩
/-- what is known of a pack half made -/
def PkI (l : List (List ByteArray)) (k : Nat) (out : List Packed) (ds : List Int) : Prop :=
  out.length = k ∧ ds.length = k ∧ (∀ j, j < k → PForm out j) ∧ (∀ j, j < k → getAt out j = (l.getD j [], true)) ∧ (∀ j, j < k → ds.getD j 0 = (deepAt out j : Int) ∧ deepAt out j ≤ 3) ∧
    ∀ j (h : j < out.length), sizeD out[j].pcs ≤ sizeD (deltaOf [] (l.getD j []))
theorem pkI_start (l : List (List ByteArray)) : PkI l 0 [] [] := ⟨rfl, rfl, fun j h => by omega, fun j h => by omega, fun j h => by omega, fun j h => by simp at h⟩
theorem doB_of {base t : List ByteArray} (hb : textB base = true) (ht : textB t = true) : doB base (deltaOf base t) = (t, true) := by
  have := do_of hb ht
  rw [dDo_ok hb (deltaOf_ok hb ht)] at this
  exact this
theorem getD_at {α : Type} {l : List α} {z : α} {j : Nat} (h : j < l.length) : l.getD j z = l[j] := by rw [List.getD_eq_getElem?_getD, List.getElem?_eq_getElem h]; rfl
theorem pkI_next {l : List (List ByteArray)} {k : Nat} {out : List Packed} {ds : List Int} (hI : PkI l k out ds) (hk : k < l.length) (ht : ∀ j, j ≤ k → textB (l.getD j []) = true) {c : Packed × Int} (hB : BestI l[k] (l.take k) ds c) :
    PkI l (k + 1) (out ++ [c.1]) (ds ++ [c.2]) := by
  obtain ⟨l1, l2, hf, hg, hd, hs⟩ := hI
  have hfo : ∀ j, j < out.length → PForm out j := fun j hj => hf j (by omega)
  have hkt : textB l[k] = true := by have := ht k (Nat.le_refl _); rw [getD_at hk] at this; exact this
  have hlk : (out ++ [c.1])[k]'(by simp; omega) = c.1 := by
    rw [List.getElem_append_right (by omega)]
    simp [l1]
  have hpk : -1 ≤ c.1.base ∧ c.1.base ≤ (k : Int) - 1 ∧ deltaB c.1.pcs = true := by
    rcases hB.2 with h | ⟨q, z, b, h1, h2, h3, h4⟩
    · rw [h]
      exact ⟨by simp [best0], by simp [best0]; omega, deltaOf_ok rfl hkt⟩
    · rw [h4]
      obtain ⟨hq, hqb⟩ := List.getElem?_eq_some_iff.1 h1
      simp only [List.length_take] at hq
      rw [List.getElem_take] at hqb
      have := ht q (by omega)
      rw [getD_at (by omega), hqb] at this
      exact ⟨by simp only; omega, by simp only; omega, deltaOf_ok this hkt⟩
  have hform : ∀ j, j < k + 1 → PForm (out ++ [c.1]) j := fun j hj => by
    by_cases e : j < k
    · exact (pform_app (by omega)).2 (hf j e)
    · have : j = k := by omega
      subst this
      intro h
      rw [hlk]
      exact hpk
  have hgk : getAt (out ++ [c.1]) k = (l.getD k [], true) ∧ c.2 = (deepAt (out ++ [c.1]) k : Int) ∧ deepAt (out ++ [c.1]) k ≤ 3 := by
    have hlt : k < (out ++ [c.1]).length := by simp; omega
    rw [getD_at hk]
    rcases hB.2 with h | ⟨q, z, b, h1, h2, h3, h4⟩
    · have hb : (out ++ [c.1])[k].base = -1 := by rw [hlk, h]; rfl
      rw [getAt_none hlt hb, deepAt_none hlt hb, hlk, h]
      exact ⟨doB_of rfl hkt, by simp [best0], by omega⟩
    · have hb : (out ++ [c.1])[k].base = (q : Int) := by rw [hlk, h4]
      obtain ⟨hq, hqb⟩ := List.getElem?_eq_some_iff.1 h1
      simp only [List.length_take] at hq
      rw [List.getElem_take] at hqb
      have hqt := ht q (by omega)
      rw [getD_at (by omega), hqb] at hqt
      obtain ⟨i1, i2⟩ := getAt_app (p := c.1) hfo (q + 1) q (by omega) (by omega)
      have hz : ds.getD q 0 = z := by rw [List.getD_eq_getElem?_getD, h2]; rfl
      have hdq := hd q (by omega)
      rw [hz] at hdq
      rw [getAt_base hlt (fun j hj => hform j (by omega)) hb, deepAt_base hlt (fun j hj => hform j (by omega)) hb, i1, i2, hg q (by omega), if_pos rfl, hlk, getD_at (by omega), hqb, h4]
      exact ⟨doB_of hqt hkt, by simp only; omega, by omega⟩
  refine ⟨by simp; omega, by simp; omega, hform, fun j hj => ?_, fun j hj => ?_, fun j hj => ?_⟩
  · by_cases e : j < k
    · rw [(getAt_app hfo (j + 1) j (by omega) (by omega)).1]
      exact hg j e
    · have : j = k := by omega
      subst this
      exact hgk.1
  · by_cases e : j < k
    · rw [(getAt_app hfo (j + 1) j (by omega) (by omega)).2, getD_app, if_pos (by omega)]
      exact hd j e
    · have : j = k := by omega
      subst this
      rw [getD_app, if_neg (by omega), if_pos (by omega)]
      exact ⟨hgk.2.1, hgk.2.2⟩
  · by_cases e : j < k
    · rw [List.getElem_append_left (by omega)]
      exact hs j (by omega)
    · have hjk : j = k := by simp at hj; omega
      subst hjk
      rw [hlk, getD_at hk]
      exact hB.1
theorem packF_I {l : List (List ByteArray)} (ht : ∀ j, j < l.length → textB (l.getD j []) = true) : ∀ (m k : Nat) (out : List Packed) (ds : List Int), m + k = l.length → PkI l k out ds → ∃ ds', PkI l l.length (packF (l.drop k) (l.take k) out ds) ds'
  | 0, k, out, ds, hm, hI => by
    rw [drop_nil l k (by omega), packF]
    have : k = l.length := by omega
    subst this
    exact ⟨ds, hI⟩
  | m + 1, k, out, ds, hm, hI => by
    have hk : k < l.length := by omega
    rw [drop_cons l k hk, packF]
    have hB := bestL_I (t := l[k]) (done := l.take k) (ds := ds) (l.take k).length 0 (best0 l[k]) (by omega) (by simp [hI.2.1]; omega) (bestI_start _ _ _)
    simp only [List.drop_zero] at hB
    have := packF_I ht m (k + 1) _ _ (by omega) (pkI_next hI hk (fun j hj => ht j (by omega)) hB)
    rw [List.take_succ_eq_append_getElem hk] at this
    exact this
theorem packF_next {l : List (List ByteArray)} {k : Nat} {out r : List Packed} {ds : List Int} {c : Packed × Int} (H : r = packF (l.drop k) (l.take k) out ds) (h : k < l.length) (hc : bestL l[k] (l.take k) ds 0 (best0 l[k]) = c) :
    r = packF (l.drop (k + 1)) (l.take (k + 1)) (out ++ [c.1]) (ds ++ [c.2]) := by
  rw [H, drop_cons l k h, packF, hc, List.take_succ_eq_append_getElem h]
theorem packF_end {l : List (List ByteArray)} {k : Nat} {out r : List Packed} {ds : List Int} (H : r = packF (l.drop k) (l.take k) out ds) (h : ¬ k < l.length) : r = out := by
  rw [H, drop_nil l k h, packF]
theorem texts_at {l : List (List ByteArray)} (h : l.all textB = true) (j : Nat) (hj : j < l.length) : textB (l.getD j []) = true := by
  rw [getD_at hj]
  exact (List.all_eq_true.1 h) _ (List.getElem_mem hj)
theorem packOf_I {l : List (List ByteArray)} (h : l.length ≤ 12) (ht : l.all textB = true) : ∃ ds, PkI l l.length (packOf l) ds := by
  have := packF_I (texts_at ht) l.length 0 [] [] rfl (pkI_start l)
  rw [packOf, if_neg (by omega), if_pos ht]
  exact this
theorem packOf_packB (l : List (List ByteArray)) : packB (packOf l) = true := by
  by_cases h : 12 < l.length
  · rw [packOf, if_pos h]; rfl
  · by_cases ht : l.all textB = true
    · obtain ⟨ds, l1, _, hf, hg, hd, _⟩ := packOf_I (by omega) ht
      refine packB_t (fun j hj => ⟨hf j (by omega), by rw [hg j (by omega)], (hd j (by omega)).2⟩) (by omega)
    · rw [packOf, if_neg h, if_neg ht]; rfl
end Go.Vc
