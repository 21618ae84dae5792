/-
  Plain functions: lines that refer to files. No program is in sight here.
-/
import Derived.Test.YtajajidmncoliaaDoorPlBlame
import Derived.Test.YtajajidmncoliaaDoorPlSend
import Derived.Test.YtajajidmncoliaaDoorLost0
set_option linter.unusedVariables false
namespace Go.Vc
/-- 'see ' -/
def seeT : ByteArray := ⟨#[115, 101, 101, 32]⟩
/-- what a line refers to; nothing, if it refers to none -/
def refT (s : ByteArray) : ByteArray := if 4 < s.size ∧ s.extract 0 4 = seeT then s.extract 4 s.size else ⟨#[]⟩
theorem refT_yes {s : ByteArray} (h1 : 4 < s.size) (h2 : s.extract 0 4 = seeT) : refT s = s.extract 4 s.size := if_pos ⟨h1, h2⟩
theorem refT_short {s : ByteArray} (h1 : ¬ 4 < s.size) : refT s = ⟨#[]⟩ := if_neg fun h => h1 h.1
theorem refT_other {s : ByteArray} (h2 : ¬ s.extract 0 4 = seeT) : refT s = ⟨#[]⟩ := if_neg fun h => h2 h.2
theorem refT_size (s : ByteArray) : (refT s).size ≤ s.size := by
  unfold refT
  split
  · simp
  · exact Nat.zero_le _
theorem refT_ne {s : ByteArray} (h1 : 4 < s.size) : ¬ s.extract 4 s.size = ⟨#[]⟩ := fun e => by
  have := congrArg ByteArray.size e
  have h0 : (⟨#[]⟩ : ByteArray).size = 0 := rfl
  rw [h0] at this
  simp at this
  omega
theorem ref_nopfx {s : ByteArray} (h : pfxB seeT s = false) : refT s = ⟨#[]⟩ := by
  by_cases h1 : 4 < s.size
  · rw [pfxB_of (p := seeT) (by show 4 ≤ s.size; omega)] at h
    exact refT_other (of_decide_eq_false h)
  · exact refT_short h1
theorem ref_pfx {s : ByteArray} (h : pfxB seeT s = true) : 4 ≤ s.size ∧ s.extract 0 4 = seeT := by
  by_cases h1 : 4 ≤ s.size
  · rw [pfxB_of (p := seeT) h1] at h
    exact ⟨h1, of_decide_eq_true h⟩
  · rw [pfxB_long (p := seeT) h1] at h
    cases h
theorem see_beq (b : ByteArray) : (b.toList == [115, 101, 101, 32]) = decide (b = seeT) := by
  rw [← toList_beq]
  congr 1
  rw [ByteArray.toList_eq]; rfl
theorem empty_t {s : ByteArray} (h : s = ⟨#[]⟩) : s.toList.isEmpty = true := by rw [h, ByteArray.toList_eq]; rfl
theorem empty_f {s : ByteArray} (h : ¬ s = ⟨#[]⟩) : s.toList.isEmpty = false := by
  cases he : s.toList.isEmpty with
  | false => rfl
  | true =>
    refine absurd (toList_inj ?_) h
    rw [List.isEmpty_iff.1 he, ByteArray.toList_eq]
/-- a line refers to a path -/
def hitB (path s : ByteArray) : Bool := decide (refT s = path) && !decide (refT s = ⟨#[]⟩)
theorem hit_none {path s : ByteArray} (h : refT s = ⟨#[]⟩) : hitB path s = false := by rw [hitB, decide_eq_true h]; simp
theorem hit_some {path s : ByteArray} (h : ¬ refT s = ⟨#[]⟩) : hitB path s = decide (refT s = path) := by rw [hitB, decide_eq_false h]; simp
theorem hit_empty {path s : ByteArray} (h : path = ⟨#[]⟩) : hitB path s = false := by
  subst h
  unfold hitB
  cases decide (refT s = ⟨#[]⟩) <;> rfl
theorem hit_path {path s : ByteArray} (h : ¬ path = ⟨#[]⟩) : hitB path s = decide (refT s = path) := by
  unfold hitB
  by_cases e : refT s = path
  · rw [decide_eq_true e, e, decide_eq_false h]; rfl
  · rw [decide_eq_false e]; rfl
def usesB (path : ByteArray) (f : File) : Bool := f.text.any (hitB path)
theorem any_hit {α : Type} {P : α → Bool} {B : Bool} {xs : List α} {k : Nat} (H : B = (xs.drop k).any P) (h : k < xs.length) (hp : P xs[k] = true) : B = true := by
  rw [H, drop_cons xs k h, List.any_cons, hp]; rfl
theorem any_next {α : Type} {P : α → Bool} {B : Bool} {xs : List α} {k : Nat} (H : B = (xs.drop k).any P) (h : k < xs.length) (hp : P xs[k] = false) : B = (xs.drop (k + 1)).any P := by
  rw [H, drop_cons xs k h, List.any_cons, hp]; rfl
theorem any_end {α : Type} {P : α → Bool} {B : Bool} {xs : List α} {k : Nat} (H : B = (xs.drop k).any P) (h : ¬ k < xs.length) : B = false := by
  rw [H, drop_nil xs k h]; rfl
theorem anyo_hit {α : Type} {P : α → Bool} {B c : Bool} {xs : List α} {k : Nat} (H : B = (c || (xs.drop k).any P)) (h : k < xs.length) (hp : P xs[k] = true) : B = (true || (xs.drop (k + 1)).any P) := by
  rw [H, drop_cons xs k h, List.any_cons, hp]; simp
theorem anyo_next {α : Type} {P : α → Bool} {B c : Bool} {xs : List α} {k : Nat} (H : B = (c || (xs.drop k).any P)) (h : k < xs.length) (hp : P xs[k] = false) : B = (c || (xs.drop (k + 1)).any P) := by
  rw [H, drop_cons xs k h, List.any_cons, hp]; rfl
theorem anyo_yes {α : Type} {P : α → Bool} {B : Bool} {xs : List α} {k : Nat} (H : B = (true || (xs.drop k).any P)) : B = (true || (xs.drop (k + 1)).any P) := by
  rw [H]; rfl
theorem anyo_end {α : Type} {P : α → Bool} {B c : Bool} {xs : List α} {k : Nat} (H : B = (c || (xs.drop k).any P)) (h : ¬ k < xs.length) : B = c := by
  rw [H, drop_nil xs k h]; simp
def usesT (t : List File) (path : ByteArray) : List ByteArray := (t.filter (usesB path)).map (·.path)
theorem uses_yes {t : List File} {path : ByteArray} {M ol : List ByteArray} {k : Nat} (H : M = ol ++ usesT (t.drop k) path) (h : k < t.length) (hp : usesB path t[k] = true) : M = (ol ++ [t[k].path]) ++ usesT (t.drop (k + 1)) path := by
  rw [H, drop_cons t k h, usesT, List.filter_cons_of_pos hp, List.map_cons, List.append_assoc]; rfl
theorem uses_no {t : List File} {path : ByteArray} {M ol : List ByteArray} {k : Nat} (H : M = ol ++ usesT (t.drop k) path) (h : k < t.length) (hp : usesB path t[k] = false) : M = ol ++ usesT (t.drop (k + 1)) path := by
  rw [H, drop_cons t k h, usesT, List.filter_cons_of_neg (by rw [hp]; simp)]; rfl
theorem uses_end {t : List File} {path : ByteArray} {M ol : List ByteArray} {k : Nat} (H : M = ol ++ usesT (t.drop k) path) (h : ¬ k < t.length) : M = ol := by
  rw [H, drop_nil t k h, usesT]; simp
def ruleUses (t : List File) (path : ByteArray) : List ByteArray := if treeB t = true then usesT t path else []
theorem ruleUses_len (t : List File) (path : ByteArray) : (ruleUses t path).length ≤ 8 := by
  unfold ruleUses
  split
  · rename_i h
    unfold usesT
    rw [List.length_map]
    have h1 := List.length_filter_le (usesB path) t
    unfold treeB at h
    rw [Bool.and_eq_true] at h
    have := of_decide_eq_true h.1
    omega
  · simp
/-- a line refers to a file that is not there -/
def badB (t : List File) (s : ByteArray) : Bool := !decide (refT s = ⟨#[]⟩) && (getT t (refT s)).isNone
theorem bad_none {t : List File} {s : ByteArray} (h : refT s = ⟨#[]⟩) : badB t s = false := by rw [badB, decide_eq_true h]; rfl
theorem bad_some {t : List File} {s : ByteArray} {M : Option (List ByteArray)} (h : ¬ refT s = ⟨#[]⟩) (hM : getT t (refT s) = M) : badB t s = M.isNone := by rw [badB, decide_eq_false h, hM]; rfl
def lostL (t : List File) (p : ByteArray) : List ByteArray → Nat → List Lost
  | [], _ => []
  | s :: r, k => (if badB t s = true then [⟨p, k, refT s⟩] else []) ++ lostL t p r (k + 1)
theorem lost_yes {t : List File} {p : ByteArray} {M ol Z : List Lost} {xs : List ByteArray} {k : Nat} (H : M = ol ++ (lostL t p (xs.drop k) k ++ Z)) (h : k < xs.length) (hb : badB t xs[k] = true) : M = (ol ++ [⟨p, k, refT xs[k]⟩]) ++ (lostL t p (xs.drop (k + 1)) (k + 1) ++ Z) := by
  rw [H, drop_cons xs k h, lostL, if_pos hb, List.append_assoc, List.append_assoc]
theorem lost_no {t : List File} {p : ByteArray} {M ol Z : List Lost} {xs : List ByteArray} {k : Nat} (H : M = ol ++ (lostL t p (xs.drop k) k ++ Z)) (h : k < xs.length) (hb : badB t xs[k] = false) : M = ol ++ (lostL t p (xs.drop (k + 1)) (k + 1) ++ Z) := by
  rw [H, drop_cons xs k h, lostL, hb]; rfl
theorem lost_end {t : List File} {p : ByteArray} {M ol Z : List Lost} {xs : List ByteArray} {k : Nat} (H : M = ol ++ (lostL t p (xs.drop k) k ++ Z)) (h : ¬ k < xs.length) : M = ol ++ Z := by
  rw [H, drop_nil xs k h]; rfl
theorem lostL_len (t : List File) (p : ByteArray) : ∀ (xs : List ByteArray) (k : Nat), (lostL t p xs k).length ≤ xs.length
  | [], _ => Nat.le_refl _
  | s :: r, k => by
    have := lostL_len t p r (k + 1)
    rw [lostL, List.length_append]
    split <;> simp <;> omega
/-- the lines of these files that refer to a file that is not there -/
def lostA (t : List File) : List File → List Lost
  | [] => []
  | f :: r => lostL t f.path f.text 0 ++ lostA t r
theorem lostA_next {t : List File} {M ol : List Lost} {fs : List File} {k : Nat} (H : M = ol ++ lostA t (fs.drop k)) (h : k < fs.length) : M = ol ++ (lostL t fs[k].path fs[k].text 0 ++ lostA t (fs.drop (k + 1))) := by
  rw [H, drop_cons fs k h, lostA]
theorem lostA_end {t : List File} {M ol : List Lost} {fs : List File} {k : Nat} (H : M = ol ++ lostA t (fs.drop k)) (h : ¬ k < fs.length) : M = ol := by
  rw [H, drop_nil fs k h, lostA, List.append_nil]
theorem lostA_len (t : List File) : ∀ (fs : List File), (∀ f, f ∈ fs → f.text.length ≤ 10) → (lostA t fs).length ≤ 10 * fs.length
  | [], _ => Nat.le_refl _
  | f :: r, h => by
    have h1 := lostA_len t r fun g hg => h g (List.mem_cons_of_mem _ hg)
    have h2 := lostL_len t f.path f.text 0
    have h3 := h f (List.mem_cons_self ..)
    rw [lostA, List.length_append, List.length_cons]
    omega
def ruleLost (t : List File) : List Lost := if treeB t = true then lostA t t else []
theorem textB_ten {t : List ByteArray} (h : textB t = true) : t.length ≤ 10 := by simp [textB] at h; exact h.1
theorem tree_files {t : List File} (h : treeB t = true) : t.length ≤ 8 ∧ ∀ f, f ∈ t → f.text.length ≤ 10 := by
  unfold treeB at h
  rw [Bool.and_eq_true] at h
  refine ⟨of_decide_eq_true h.1, fun f hf => ?_⟩
  obtain ⟨k, hk, rfl⟩ := List.getElem_of_mem hf
  exact textB_ten (treeAt_path hk (of_decide_eq_true h.2 k hk)).2
theorem lostA_few {t u : List File} (h : treeB u = true) : (lostA t u).length ≤ 80 := by
  obtain ⟨h1, h2⟩ := tree_files h
  have := lostA_len t u h2
  omega
theorem ruleLost_len (t : List File) : (ruleLost t).length ≤ 80 := by
  unfold ruleLost
  split
  · rename_i h
    exact lostA_few h
  · simp
end Go.Vc
