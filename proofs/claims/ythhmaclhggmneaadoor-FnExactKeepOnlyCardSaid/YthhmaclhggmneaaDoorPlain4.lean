/-
  Plain functions: a text made of another one. No program is in sight here.
-/
import Derived.Test.YthhmaclhggmneaaDoorPlain3
namespace Go.Vc

/-- the pieces put one behind the other; none, if one of them is not there -/
def applyD (base : List ByteArray) : List Delta → List ByteArray → Option (List ByteArray)
  | [], out => some out
  | d :: r, out => if (base.length : Int) < d.fr + d.many then none else applyD base r (out ++ (((base.drop d.fr.toNat).take d.many.toNat) ++ d.lines))
def doB (base : List ByteArray) (ds : List Delta) : List ByteArray × Bool :=
  match applyD base ds [] with
  | some out => if textB out = true then (out, true) else ([], false)
  | none => ([], false)
def dDo (base : List ByteArray) (ds : List Delta) : List ByteArray × Bool := if textB base = true then (if deltaB ds = true then doB base ds else ([], false)) else ([], false)
theorem applyD_next {base : List ByteArray} {ds : List Delta} {k : Nat} {out : List ByteArray} {r : Option (List ByteArray)} (H : r = applyD base (ds.drop k) out) (h : k < ds.length) (hc : ¬ (base.length : Int) < ds[k].fr + ds[k].many) :
    r = applyD base (ds.drop (k + 1)) (out ++ (((base.drop ds[k].fr.toNat).take ds[k].many.toNat) ++ ds[k].lines)) := by
  rw [H, drop_cons ds k h, applyD, if_neg hc]
theorem applyD_bad {base : List ByteArray} {ds : List Delta} {k : Nat} {out : List ByteArray} {r : Option (List ByteArray)} (H : r = applyD base (ds.drop k) out) (h : k < ds.length) (hc : (base.length : Int) < ds[k].fr + ds[k].many) : r = none := by
  rw [H, drop_cons ds k h, applyD, if_pos hc]
theorem applyD_end {base : List ByteArray} {ds : List Delta} {k : Nat} {out : List ByteArray} {r : Option (List ByteArray)} (H : r = applyD base (ds.drop k) out) (h : ¬ k < ds.length) : r = some out := by
  rw [H, drop_nil ds k h, applyD]
theorem deltaB_len {ds : List Delta} (h : deltaB ds = true) : ds.length ≤ 10 := by simp [deltaB] at h; exact h.1
theorem deltaB_at {ds : List Delta} (h : deltaB ds = true) {k : Nat} (hk : k < ds.length) : pieceB ds[k] = true := by
  simp [deltaB] at h; exact h.2 _ (List.getElem_mem hk)
theorem textB_len {t : List ByteArray} (h : textB t = true) : t.length ≤ 10 := by simp [textB] at h; exact h.1
/-- what is known of a piece that is ok -/
theorem piece_facts {d : Delta} (h : pieceB d = true) : 0 ≤ d.fr ∧ d.fr ≤ 10 ∧ 0 ≤ d.many ∧ d.fr + d.many ≤ 10 ∧ d.lines.length ≤ 10 ∧ (0 < d.lines.length → d.fr = 0 ∧ d.many = 0) ∧ (¬ 0 < d.lines.length → d.lines = []) := by
  obtain ⟨h1, h2, h3, h4, h5⟩ := (piece_iff d).1 h
  refine ⟨h1.1, h1.2, h2.1, by omega, textB_len h3, fun hl => ?_, fun hl => List.eq_nil_of_length_eq_zero (by omega)⟩
  have hm : d.many = 0 := by
    have : ¬ 0 < d.many := fun hp => (h4.1 hp) hl
    omega
  exact ⟨h5 hm, hm⟩
theorem dDo_ok {base : List ByteArray} {ds : List Delta} (h1 : textB base = true) (h2 : deltaB ds = true) : dDo base ds = doB base ds := by rw [dDo, if_pos h1, if_pos h2]
theorem dDo_bad1 {base : List ByteArray} {ds : List Delta} (h1 : textB base = false) : dDo base ds = ([], false) := by rw [dDo, if_neg (by rw [h1]; simp)]
theorem dDo_bad2 {base : List ByteArray} {ds : List Delta} (h2 : deltaB ds = false) : dDo base ds = ([], false) := by
  unfold dDo
  split
  · rw [if_neg (by rw [h2]; simp)]
  · rfl
theorem doB_none {base : List ByteArray} {ds : List Delta} (h : applyD base ds [] = none) : doB base ds = ([], false) := by rw [doB, h]
theorem doB_some {base : List ByteArray} {ds : List Delta} {out : List ByteArray} (h : applyD base ds [] = some out) (ht : textB out = true) : doB base ds = (out, true) := by rw [doB, h]; simp [ht]
theorem doB_long {base : List ByteArray} {ds : List Delta} {out : List ByteArray} (h : applyD base ds [] = some out) (ht : textB out = false) : doB base ds = ([], false) := by rw [doB, h]; simp [ht]
end Go.Vc
