/-
  Plain functions: deltas. No program is in sight here. / Plain functions: how a text is made of another one. No program is in sight here. / Plain functions: a text made of another one. No program is in sight here.
-/
import Derived.Test.YthhmaclhggmneaaGreatDoorVA
set_option linter.unusedVariables false
namespace Go.Vc

def pieceB (d : Delta) : Bool :=
  if 0 < d.lines.length then decide (d.fr = 0) && decide (d.many = 0) && textB d.lines else withinB d.fr 0 10 && withinB d.many 1 (10 - d.fr)
def deltaB (xs : List Delta) : Bool := decide (xs.length ≤ 10) && xs.all pieceB
theorem piece1 {d : Delta} (h : 0 < d.lines.length) (h1 : d.fr = 0) (h2 : d.many = 0) : pieceB d = textB d.lines := by
  rw [pieceB, if_pos h]; simp [h1, h2]
theorem piece1a {d : Delta} (h : 0 < d.lines.length) (h1 : ¬ d.fr = 0) : pieceB d = false := by rw [pieceB, if_pos h]; simp [h1]
theorem piece1b {d : Delta} (h : 0 < d.lines.length) (h1 : ¬ d.many = 0) : pieceB d = false := by rw [pieceB, if_pos h]; simp [h1]
theorem piece2 {d : Delta} (h : ¬ 0 < d.lines.length) : pieceB d = (withinB d.fr 0 10 && withinB d.many 1 (10 - d.fr)) := by rw [pieceB, if_neg h]
theorem withinB_iff (n lo hi : Int) : withinB n lo hi = true ↔ lo ≤ n ∧ n ≤ hi := by simp [withinB]
theorem withinB_not (n lo hi : Int) : withinB n lo hi = false ↔ ¬ (lo ≤ n ∧ n ≤ hi) := by
  rw [← withinB_iff]; simp
theorem text_nil : textB [] = true := rfl
/-- what the reference asks of a piece -/
theorem piece_iff (d : Delta) : pieceB d = true ↔ (0 ≤ d.fr ∧ d.fr ≤ 10) ∧ (0 ≤ d.many ∧ d.many ≤ 10 - d.fr) ∧ textB d.lines = true ∧ (0 < d.many ↔ ¬ 0 < d.lines.length) ∧ (d.many = 0 → d.fr = 0) := by
  by_cases h : 0 < d.lines.length
  · rw [pieceB, if_pos h]
    simp only [Bool.and_eq_true, decide_eq_true_eq]
    constructor
    · rintro ⟨⟨h1, h2⟩, h3⟩
      exact ⟨by omega, by omega, h3, by constructor <;> omega, fun _ => h1⟩
    · rintro ⟨h1, h2, h3, h4, h5⟩
      have : ¬ 0 < d.many := fun hm => (h4.1 hm) h
      exact ⟨⟨h5 (by omega), by omega⟩, h3⟩
  · rw [piece2 h]
    simp only [Bool.and_eq_true, withinB_iff]
    have hl : d.lines = [] := List.eq_nil_of_length_eq_zero (by omega)
    constructor
    · rintro ⟨h1, h2⟩
      exact ⟨h1, by omega, by rw [hl]; rfl, by constructor <;> omega, fun hm => by omega⟩
    · rintro ⟨h1, h2, h3, h4, h5⟩
      have := h4.2 h
      exact ⟨h1, by omega, h2.2⟩
end Go.Vc
namespace Go.Vc

/-- how many lines both texts begin with together -/
def pfx : List ByteArray → List ByteArray → Nat
  | a :: as, b :: bs => if a = b then pfx as bs + 1 else 0
  | _, _ => 0
theorem pfx_next {a b : List ByteArray} {k n : Nat} (H : n = k + pfx (a.drop k) (b.drop k)) (h : k < a.length) (h' : k < b.length) (e : a[k] = b[k]) : n = k + 1 + pfx (a.drop (k + 1)) (b.drop (k + 1)) := by
  rw [H, drop_cons a k h, drop_cons b k h', pfx, if_pos e]; omega
theorem pfx_bad {a b : List ByteArray} {k n : Nat} (H : n = k + pfx (a.drop k) (b.drop k)) (h : k < a.length) (h' : k < b.length) (e : ¬ a[k] = b[k]) : n = k := by
  rw [H, drop_cons a k h, drop_cons b k h', pfx, if_neg e]; omega
theorem pfx_endA {a b : List ByteArray} {k n : Nat} (H : n = k + pfx (a.drop k) (b.drop k)) (h : ¬ k < a.length) : n = k := by
  rw [H, drop_nil a k h, pfx]
  · omega
  · intro _ _ _ _ h1; simp at h1
theorem pfx_endB {a b : List ByteArray} {k n : Nat} (H : n = k + pfx (a.drop k) (b.drop k)) (h : ¬ k < b.length) : n = k := by
  rw [H, drop_nil b k h, pfx]
  · omega
  · intro _ _ _ _ _ h1; simp at h1
theorem pfx_next2 {a b : List ByteArray} {i k n : Nat} (H : n = k + pfx (a.drop (i + k)) (b.drop k)) (h : i + k < a.length) (h' : k < b.length) (e : a[i + k] = b[k]) : n = k + 1 + pfx (a.drop (i + (k + 1))) (b.drop (k + 1)) := by
  rw [H, drop_cons a (i + k) h, drop_cons b k h', pfx, if_pos e]
  have : i + k + 1 = i + (k + 1) := by omega
  rw [this]; omega
theorem pfx_bad2 {a b : List ByteArray} {i k n : Nat} (H : n = k + pfx (a.drop (i + k)) (b.drop k)) (h : i + k < a.length) (h' : k < b.length) (e : ¬ a[i + k] = b[k]) : n = k := by
  rw [H, drop_cons a (i + k) h, drop_cons b k h', pfx, if_neg e]; omega
theorem pfx_endA2 {a b : List ByteArray} {i k n : Nat} (H : n = k + pfx (a.drop (i + k)) (b.drop k)) (h : ¬ i + k < a.length) : n = k := by
  rw [H, drop_nil a (i + k) h, pfx]
  · omega
  · intro _ _ _ _ h1; simp at h1
theorem pfx_endB2 {a b : List ByteArray} {i k n : Nat} (H : n = k + pfx (a.drop (i + k)) (b.drop k)) (h : ¬ k < b.length) : n = k := by
  rw [H, drop_nil b k h, pfx]
  · omega
  · intro _ _ _ _ _ h1; simp at h1
theorem pfx_le : ∀ (a b : List ByteArray), pfx a b ≤ a.length ∧ pfx a b ≤ b.length
  | a :: as, b :: bs => by
    rw [pfx]
    split
    · have := pfx_le as bs; simp; omega
    · simp
  | [], _ => by simp [pfx]
  | _ :: _, [] => by simp [pfx]

/-- the longest run of a text's lines with which t begins, the first of those -/
def bestF (t : List ByteArray) : List ByteArray → Nat → Nat × Nat → Nat × Nat
  | [], _, c => c
  | x :: r, i, c => bestF t r (i + 1) (if c.2 < pfx (x :: r) t then (i, pfx (x :: r) t) else c)
def bestOf (base t : List ByteArray) : Nat × Nat := bestF t base 0 (0, 0)
theorem bestF_next {t base : List ByteArray} {i : Nat} {c r : Nat × Nat} (H : r = bestF t (base.drop i) i c) (h : i < base.length) :
    r = bestF t (base.drop (i + 1)) (i + 1) (if c.2 < pfx (base.drop i) t then (i, pfx (base.drop i) t) else c) := by
  rw [H, drop_cons base i h, bestF]
theorem bestF_end {t base : List ByteArray} {i : Nat} {c r : Nat × Nat} (H : r = bestF t (base.drop i) i c) (h : ¬ i < base.length) : r = c := by
  rw [H, drop_nil base i h, bestF]
theorem bestF_le (t base : List ByteArray) : ∀ (r : List ByteArray) (i : Nat) (c : Nat × Nat), r = base.drop i → c.2 ≤ t.length → c.1 + c.2 ≤ base.length → i ≤ base.length → (bestF t r i c).2 ≤ t.length ∧ (bestF t r i c).1 + (bestF t r i c).2 ≤ base.length
  | [], _, c, _, h1, h2, _ => ⟨h1, h2⟩
  | x :: r, i, c, hr, h1, h2, hi => by
    have hl : (x :: r).length = base.length - i := by rw [hr]; simp
    have hp := pfx_le (x :: r) t
    have hlt : i < base.length := by simp at hl; omega
    rw [bestF]
    refine bestF_le t base r (i + 1) _ ?_ ?_ ?_ hlt
    · have := drop_cons base i hlt
      rw [← hr] at this
      exact (List.cons.inj this).2
    · split
      · exact hp.2
      · exact h1
    · split
      · show i + pfx (x :: r) t ≤ base.length; omega
      · exact h2
theorem bestOf_le (base t : List ByteArray) : (bestOf base t).2 ≤ t.length ∧ (bestOf base t).1 + (bestOf base t).2 ≤ base.length :=
  bestF_le t base base 0 (0, 0) rfl (Nat.zero_le _) (Nat.zero_le _) (Nat.zero_le _)

/-- one piece more -/
def stepD (out : List Delta) (fr m : Nat) (x : ByteArray) : List Delta :=
  if 0 < m then out ++ [⟨fr, m, []⟩]
  else if h : 0 < out.length then
    if 0 < out[out.length - 1].lines.length then out.set (out.length - 1) ⟨out[out.length - 1].fr, out[out.length - 1].many, out[out.length - 1].lines ++ [x]⟩ else out ++ [⟨0, 0, [x]⟩]
  else out ++ [⟨0, 0, [x]⟩]
def deltaF (base : List ByteArray) : Nat → List ByteArray → List Delta → List Delta
  | 0, _, out => out
  | _ + 1, [], out => out
  | f + 1, x :: r, out => deltaF base f ((x :: r).drop (max 1 (bestOf base (x :: r)).2)) (stepD out (bestOf base (x :: r)).1 (bestOf base (x :: r)).2 x)
def deltaOf (base t : List ByteArray) : List Delta := deltaF base t.length t []
theorem deltaF_fuel (base : List ByteArray) : ∀ (f : Nat) (t : List ByteArray) (out : List Delta), t.length ≤ f → deltaF base f t out = deltaF base t.length t out
  | 0, t, out, h => by
    have : t = [] := List.eq_nil_of_length_eq_zero (by omega)
    subst this; rfl
  | f + 1, [], out, _ => rfl
  | f + 1, x :: r, out, h => by
    rw [List.length_cons, deltaF, deltaF]
    have hl : ((x :: r).drop (max 1 (bestOf base (x :: r)).2)).length ≤ r.length := by simp; omega
    rw [deltaF_fuel base f _ _ (by simp at h; omega), deltaF_fuel base r.length _ _ hl]
/-- what one round does -/
theorem deltaF_next {base t : List ByteArray} {out D : List Delta} (H : D = deltaF base t.length t out) (h : 0 < t.length) :
    D = deltaF base (t.drop (max 1 (bestOf base t).2)).length (t.drop (max 1 (bestOf base t).2)) (stepD out (bestOf base t).1 (bestOf base t).2 t[0]) := by
  cases t with
  | nil => simp at h
  | cons x r =>
    rw [H, List.length_cons, deltaF]
    exact deltaF_fuel base _ _ _ (by simp; omega)
theorem deltaF_end {base t : List ByteArray} {out D : List Delta} (H : D = deltaF base t.length t out) (h : ¬ 0 < t.length) : D = out := by
  have : t = [] := List.eq_nil_of_length_eq_zero (by omega)
  subst this
  exact H
theorem stepD_run {out : List Delta} {fr m : Nat} {x : ByteArray} (h : 0 < m) : stepD out fr m x = out ++ [⟨fr, m, []⟩] := by rw [stepD, if_pos h]
theorem stepD_more {out : List Delta} {fr m : Nat} {x : ByteArray} (h : ¬ 0 < m) (h1 : 0 < out.length) (h2 : 0 < out[out.length - 1].lines.length) :
    stepD out fr m x = out.set (out.length - 1) ⟨out[out.length - 1].fr, out[out.length - 1].many, out[out.length - 1].lines ++ [x]⟩ := by rw [stepD, if_neg h, dif_pos h1, if_pos h2]
theorem stepD_new {out : List Delta} {fr m : Nat} {x : ByteArray} (h : ¬ 0 < m) (h1 : 0 < out.length) (h2 : ¬ 0 < out[out.length - 1].lines.length) : stepD out fr m x = out ++ [⟨0, 0, [x]⟩] := by
  rw [stepD, if_neg h, dif_pos h1, if_neg h2]
theorem stepD_first {out : List Delta} {fr m : Nat} {x : ByteArray} (h : ¬ 0 < m) (h1 : ¬ 0 < out.length) : stepD out fr m x = out ++ [⟨0, 0, [x]⟩] := by rw [stepD, if_neg h, dif_neg h1]
theorem stepD_len (out : List Delta) (fr m : Nat) (x : ByteArray) : (stepD out fr m x).length ≤ out.length + 1 := by
  unfold stepD
  split
  · simp
  · split
    · split <;> simp
    · simp
/-- each piece is lines, or a run -/
def Apart (out : List Delta) : Prop := ∀ d, d ∈ out → (d.many = 0 ↔ 0 < d.lines.length)
theorem stepD_apart {out : List Delta} (h : Apart out) (fr m : Nat) (x : ByteArray) : Apart (stepD out fr m x) := by
  unfold stepD
  split
  · intro d hd
    rcases List.mem_append.1 hd with hd | hd
    · exact h d hd
    · simp at hd; subst hd; simp; omega
  · split
    · split
      · rename_i h1 h2
        intro d hd
        rcases List.mem_or_eq_of_mem_set hd with hd | rfl
        · exact h d hd
        · have := (h _ (List.getElem_mem (by omega : out.length - 1 < out.length))).2 h2
          simp [this]
      · intro d hd
        rcases List.mem_append.1 hd with hd | hd
        · exact h d hd
        · simp at hd; subst hd; simp
    · intro d hd
      rcases List.mem_append.1 hd with hd | hd
      · exact h d hd
      · simp at hd; subst hd; simp
/-- no piece has more lines than have been taken -/
def Small (out : List Delta) (n : Nat) : Prop := ∀ d, d ∈ out → d.lines.length + n ≤ 10
theorem small_nil (n : Nat) : Small [] n := fun _ hd => by cases hd
theorem stepD_small {out : List Delta} {n : Nat} (h : Small out n) (h0 : 0 < n) (hn : n ≤ 10) (fr m : Nat) (x : ByteArray) (k : Nat) (hk : k ≤ n - 1) : Small (stepD out fr m x) k := by
  unfold stepD
  split
  · intro d hd
    rcases List.mem_append.1 hd with hd | hd
    · have := h d hd; omega
    · simp at hd; subst hd; simp; omega
  · split
    · split
      · rename_i h1 h2
        intro d hd
        rcases List.mem_or_eq_of_mem_set hd with hd | rfl
        · have := h d hd; omega
        · have := h _ (List.getElem_mem (by omega : out.length - 1 < out.length))
          simp; omega
      · intro d hd
        rcases List.mem_append.1 hd with hd | hd
        · have := h d hd; omega
        · simp at hd; subst hd; simp; omega
    · intro d hd
      rcases List.mem_append.1 hd with hd | hd
      · have := h d hd; omega
      · simp at hd; subst hd; simp; omega
theorem deltaF_small (base : List ByteArray) : ∀ (f : Nat) (t : List ByteArray) (out : List Delta), t.length ≤ f → Small out t.length → t.length + out.length ≤ 10 → (deltaF base f t out).length ≤ 10 ∧ Small (deltaF base f t out) 0
  | 0, t, out, _, h, hl => ⟨by simp [deltaF]; omega, fun d hd => by have := h d hd; omega⟩
  | f + 1, [], out, _, h, hl => ⟨by simp [deltaF]; simpa using hl, fun d hd => by have := h d hd; omega⟩
  | f + 1, x :: r, out, hf, h, hl => by
    have hb := bestOf_le base (x :: r)
    have hlen : ((x :: r).drop (max 1 (bestOf base (x :: r)).2)).length = (x :: r).length - max 1 (bestOf base (x :: r)).2 := by simp
    have hst := stepD_len out (bestOf base (x :: r)).1 (bestOf base (x :: r)).2 x
    rw [deltaF]
    refine deltaF_small base f _ _ ?_ ?_ ?_
    · rw [hlen]; simp at hf ⊢; omega
    · rw [hlen]
      exact stepD_small h (by simp) (by omega) _ _ _ _ (by simp; omega)
    · rw [hlen]; simp at hl ⊢; omega
theorem deltaOf_small {base t : List ByteArray} (h : t.length ≤ 10) : (deltaOf base t).length ≤ 10 ∧ Small (deltaOf base t) 0 :=
  deltaF_small base t.length t [] (Nat.le_refl _) (small_nil _) (by simpa using h)
theorem bsum_small {α : Type} (c : α → Nat) (n : Nat) : ∀ (xs : List α), (∀ x, x ∈ xs → c x ≤ n) → bsum c xs ≤ n * xs.length
  | [], _ => by simp [bsum]
  | x :: r, h => by
    have h1 := bsum_small c n r fun y hy => h y (List.mem_cons_of_mem _ hy)
    have h2 := h x (List.mem_cons_self ..)
    rw [bsum_cons, List.length_cons, Nat.mul_add]
    omega
end Go.Vc
namespace Go.Vc

/-- the pieces put one behind the other; none, if one of them is not there -/
def applyD (base : List ByteArray) : List Delta → List ByteArray → Option (List ByteArray)
  | [], out => some out
  | d :: r, out => if (base.length : Int) < d.fr + d.many then none else applyD base r (out ++ (((base.drop d.fr.toNat).take d.many.toNat) ++ d.lines))
def doB (base : List ByteArray) (ds : List Delta) : List ByteArray × Bool :=
  match applyD base ds [] with
  | some out => if textB out = true then (out, true) else ([], false)
  | none => ([], false)
def dDo (base : List ByteArray) (ds : List Delta) : List ByteArray × Bool := if textB base = true then (if deltaB ds = true then doB base ds else ([], false)) else ([], false)
theorem applyD_next {base : List ByteArray} {ds : List Delta} {k : Nat} {out : List ByteArray} {r : Option (List ByteArray)} (H : r = applyD base (ds.drop k) out) (h : k < ds.length) (hc : ¬ (base.length : Int) < ds[k].fr + ds[k].many) :
    r = applyD base (ds.drop (k + 1)) (out ++ (((base.drop ds[k].fr.toNat).take ds[k].many.toNat) ++ ds[k].lines)) := by
  rw [H, drop_cons ds k h, applyD, if_neg hc]
theorem applyD_bad {base : List ByteArray} {ds : List Delta} {k : Nat} {out : List ByteArray} {r : Option (List ByteArray)} (H : r = applyD base (ds.drop k) out) (h : k < ds.length) (hc : (base.length : Int) < ds[k].fr + ds[k].many) : r = none := by
  rw [H, drop_cons ds k h, applyD, if_pos hc]
theorem applyD_end {base : List ByteArray} {ds : List Delta} {k : Nat} {out : List ByteArray} {r : Option (List ByteArray)} (H : r = applyD base (ds.drop k) out) (h : ¬ k < ds.length) : r = some out := by
  rw [H, drop_nil ds k h, applyD]
theorem deltaB_len {ds : List Delta} (h : deltaB ds = true) : ds.length ≤ 10 := by simp [deltaB] at h; exact h.1
theorem deltaB_at {ds : List Delta} (h : deltaB ds = true) {k : Nat} (hk : k < ds.length) : pieceB ds[k] = true := by
  simp [deltaB] at h; exact h.2 _ (List.getElem_mem hk)
theorem textB_len {t : List ByteArray} (h : textB t = true) : t.length ≤ 10 := by simp [textB] at h; exact h.1
/-- what is known of a piece that is ok -/
theorem piece_facts {d : Delta} (h : pieceB d = true) : 0 ≤ d.fr ∧ d.fr ≤ 10 ∧ 0 ≤ d.many ∧ d.fr + d.many ≤ 10 ∧ d.lines.length ≤ 10 ∧ (0 < d.lines.length → d.fr = 0 ∧ d.many = 0) ∧ (¬ 0 < d.lines.length → d.lines = []) := by
  obtain ⟨h1, h2, h3, h4, h5⟩ := (piece_iff d).1 h
  refine ⟨h1.1, h1.2, h2.1, by omega, textB_len h3, fun hl => ?_, fun hl => List.eq_nil_of_length_eq_zero (by omega)⟩
  have hm : d.many = 0 := by
    have : ¬ 0 < d.many := fun hp => (h4.1 hp) hl
    omega
  exact ⟨h5 hm, hm⟩
theorem dDo_ok {base : List ByteArray} {ds : List Delta} (h1 : textB base = true) (h2 : deltaB ds = true) : dDo base ds = doB base ds := by rw [dDo, if_pos h1, if_pos h2]
theorem dDo_bad1 {base : List ByteArray} {ds : List Delta} (h1 : textB base = false) : dDo base ds = ([], false) := by rw [dDo, if_neg (by rw [h1]; simp)]
theorem dDo_bad2 {base : List ByteArray} {ds : List Delta} (h2 : deltaB ds = false) : dDo base ds = ([], false) := by
  unfold dDo
  split
  · rw [if_neg (by rw [h2]; simp)]
  · rfl
theorem doB_none {base : List ByteArray} {ds : List Delta} (h : applyD base ds [] = none) : doB base ds = ([], false) := by rw [doB, h]
theorem doB_some {base : List ByteArray} {ds : List Delta} {out : List ByteArray} (h : applyD base ds [] = some out) (ht : textB out = true) : doB base ds = (out, true) := by rw [doB, h]; simp [ht]
theorem doB_long {base : List ByteArray} {ds : List Delta} {out : List ByteArray} (h : applyD base ds [] = some out) (ht : textB out = false) : doB base ds = ([], false) := by rw [doB, h]; simp [ht]
end Go.Vc
