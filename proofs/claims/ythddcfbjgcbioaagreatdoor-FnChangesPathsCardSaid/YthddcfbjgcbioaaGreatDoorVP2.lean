/-
  Plain functions: differences and patches. No program is in sight here. / Plain functions: merges. No program is in sight here.
-/
import Derived.Test.YthddcfbjgcbioaaGreatDoorVP1
import Derived.Test.YthddcfbjgcbioaaGreatDoorVPB
set_option linter.unusedVariables false
namespace Go.Vc

/-- lines f to i -/
def cutF (a : List ByteArray) (f i : Nat) : List ByteArray := (a.drop f).take (i - f)
theorem cutF_len {a : List ByteArray} {f i : Nat} (h1 : f ≤ i) (h2 : i ≤ a.length) : (cutF a f i).length = i - f := by unfold cutF; simp; omega

/-- what must be taken out, and put in, between lines that are one -/
def df (a b : List ByteArray) : List Int → Nat → Nat → Nat → List Hunk
  | [], _, _, _ => []
  | m :: ms, i, fa, fb =>
    if m < 0 then df a b ms (i + 1) fa fb
    else if fa < i ∨ fb < m.toNat then ⟨fa, cutF a fa i, cutF b fb m.toNat⟩ :: df a b ms (i + 1) (i + 1) (m.toNat + 1)
    else df a b ms (i + 1) (i + 1) (m.toNat + 1)
def pairsT (a b : List ByteArray) : List Int := matchT a b ++ [(b.length : Int)]
theorem pairsT_len (a b : List ByteArray) : (pairsT a b).length = a.length + 1 := by simp [pairsT, matchT_len]
def diffT (a b : List ByteArray) : List Hunk := df a b (pairsT a b) 0 0 0
section
variable {a b : List ByteArray} {ps : List Int} {D ol : List Hunk} {i fa fb : Nat}
theorem df_neg (H : D = ol ++ df a b (ps.drop i) i fa fb) (hi : i < ps.length) (h : ps[i] < 0) : D = ol ++ df a b (ps.drop (i + 1)) (i + 1) fa fb := by
  rw [H, drop_cons ps i hi, df, if_pos h]
theorem df_put {n : Nat} (H : D = ol ++ df a b (ps.drop i) i fa fb) (hi : i < ps.length) (e : ps[i] = (n : Int)) (h : fa < i ∨ fb < n) : D = (ol ++ [⟨fa, cutF a fa i, cutF b fb n⟩]) ++ df a b (ps.drop (i + 1)) (i + 1) (i + 1) (n + 1) := by
  rw [H, drop_cons ps i hi, df, if_neg (by omega), e, Int.toNat_natCast, if_pos h, List.append_assoc]; rfl
theorem df_no {n : Nat} (H : D = ol ++ df a b (ps.drop i) i fa fb) (hi : i < ps.length) (e : ps[i] = (n : Int)) (h : ¬ (fa < i ∨ fb < n)) : D = ol ++ df a b (ps.drop (i + 1)) (i + 1) (i + 1) (n + 1) := by
  rw [H, drop_cons ps i hi, df, if_neg (by omega), e, Int.toNat_natCast, if_neg h]
theorem df_end (H : D = ol ++ df a b (ps.drop i) i fa fb) (hi : ¬ i < ps.length) : D = ol := by
  rw [H, drop_nil ps i hi, df, List.append_nil]
end
theorem df_len (a b : List ByteArray) : ∀ (ms : List Int) (i fa fb : Nat), (df a b ms i fa fb).length ≤ ms.length
  | [], _, _, _ => by simp [df]
  | m :: ms, i, fa, fb => by
    rw [df]
    split
    · have := df_len a b ms (i + 1) fa fb; simp; omega
    · split
      · have := df_len a b ms (i + 1) (i + 1) (m.toNat + 1); simp; omega
      · have := df_len a b ms (i + 1) (i + 1) (m.toNat + 1); simp; omega
theorem diffT_len (a b : List ByteArray) : (diffT a b).length ≤ a.length + 1 := by
  have := df_len a b (pairsT a b) 0 0 0
  rw [pairsT_len] at this
  exact this
theorem df_lines (a b : List ByteArray) : ∀ (ms : List Int) (i fa fb : Nat) (h : Hunk), h ∈ df a b ms i fa fb → h.less.length ≤ a.length ∧ h.more.length ≤ b.length
  | [], _, _, _, h, hm => by simp [df] at hm
  | m :: ms, i, fa, fb, h, hm => by
    rw [df] at hm
    split at hm
    · exact df_lines a b ms _ _ _ h hm
    · split at hm
      · rcases List.mem_cons.1 hm with rfl | hm
        · simp only [cutF, List.length_take, List.length_drop]; omega
        · exact df_lines a b ms _ _ _ h hm
      · exact df_lines a b ms _ _ _ h hm

/-- one piece of a patch is ok -/
def hunkB (h : Hunk) : Bool := withinB h.at_ 0 10 && textB h.less && textB h.more && decide (0 < h.less.length + h.more.length)
theorem hunkB_iff (h : Hunk) : hunkB h = true ↔ (0 ≤ h.at_ ∧ h.at_ ≤ 10) ∧ textB h.less = true ∧ textB h.more = true ∧ 0 < h.less.length + h.more.length := by
  simp [hunkB, withinB, and_assoc]
def noHunk : Hunk := ⟨0, [], []⟩
/-- piece i comes behind the one ahead of it -/
def gapB (d : List Hunk) (i : Nat) : Bool := decide (i = 0) || decide ((d.getD (i - 1) noHunk).at_ + (d.getD (i - 1) noHunk).less.length < (d.getD i noHunk).at_)
def hunksB (d : List Hunk) : Bool := decide (∀ i, i < d.length → hunkB (d.getD i noHunk) = true ∧ gapB d i = true)
def patchB (d : List Hunk) : Bool := decide (d.length ≤ 8) && hunksB d
theorem hunksB_t {d : List Hunk} (h : ∀ i, i < d.length → hunkB (d.getD i noHunk) = true ∧ gapB d i = true) : hunksB d = true := decide_eq_true h
theorem hunksB_f {d : List Hunk} {i : Nat} (hi : i < d.length) (h : ¬ (hunkB (d.getD i noHunk) = true ∧ gapB d i = true)) : hunksB d = false := decide_eq_false fun hh => h (hh i hi)
theorem getD_hunk {d : List Hunk} {i : Nat} (h : i < d.length) : d.getD i noHunk = d[i] := by simp [List.getD, h]
theorem patchB_iff (d : List Hunk) : patchB d = true ↔ d.length ≤ 8 ∧ ∀ i, i < d.length → hunkB (d.getD i noHunk) = true ∧ gapB d i = true := by simp [patchB, hunksB]
theorem gapB_pos {d : List Hunk} {i : Nat} (h0 : 0 < i) (h : i < d.length) : gapB d i = decide (d[i - 1].at_ + d[i - 1].less.length < d[i].at_) := by
  unfold gapB
  rw [getD_hunk h, getD_hunk (by omega), decide_eq_false (by omega : ¬ i = 0), Bool.false_or]
theorem patch_at {d : List Hunk} (h : patchB d = true) {i : Nat} (hi : i < d.length) : 0 ≤ d[i].at_ ∧ d[i].at_ ≤ 10 ∧ textB d[i].less = true ∧ textB d[i].more = true ∧ 0 < d[i].less.length + d[i].more.length := by
  have := (((patchB_iff d).1 h).2 i hi).1
  rw [getD_hunk hi, hunkB_iff] at this
  exact ⟨this.1.1, this.1.2, this.2⟩
theorem patch_gap {d : List Hunk} (h : patchB d = true) {i : Nat} (h0 : 0 < i) (hi : i < d.length) : d[i - 1].at_ + d[i - 1].less.length < d[i].at_ := by
  have := (((patchB_iff d).1 h).2 i hi).2
  rw [gapB_pos h0 hi] at this
  exact of_decide_eq_true this
theorem patch_len {d : List Hunk} (h : patchB d = true) : d.length ≤ 8 := ((patchB_iff d).1 h).1
theorem text_len10 {t : List ByteArray} (h : textB t = true) : t.length ≤ 10 := by simp [textB] at h; exact h.1

/-- all pieces put in -/
def doF (t : List ByteArray) : List Hunk → Nat → List ByteArray → Option (List ByteArray)
  | [], fr, out => some (out ++ t.drop fr)
  | h :: r, fr, out =>
    if t.length < h.at_.toNat + h.less.length then none
    else if (t.drop h.at_.toNat).take h.less.length = h.less then doF t r (h.at_.toNat + h.less.length) (out ++ cutF t fr h.at_.toNat ++ h.more)
    else none
/-- what comes of it: the text, if it is one -/
def pFin : Option (List ByteArray) → List ByteArray × Bool
  | some out => if textB out = true then (out, true) else ([], false)
  | none => ([], false)
def pDoF (t : List ByteArray) (d : List Hunk) : List ByteArray × Bool := pFin (doF t d 0 [])
def pDo (t : List ByteArray) (d : List Hunk) : List ByteArray × Bool := if textB t = true ∧ patchB d = true then pDoF t d else ([], false)
section
variable {t : List ByteArray} {d : List Hunk} {k fr : Nat} {R : Option (List ByteArray)} {out : List ByteArray}
theorem doF_long (H : R = doF t (d.drop k) fr out) (hk : k < d.length) (h : t.length < d[k].at_.toNat + d[k].less.length) : R = none := by
  rw [H, drop_cons d k hk, doF, if_pos h]
theorem doF_other (H : R = doF t (d.drop k) fr out) (hk : k < d.length) (h : ¬ (t.drop d[k].at_.toNat).take d[k].less.length = d[k].less) : R = none := by
  rw [H, drop_cons d k hk, doF]
  split
  · rfl
  · first | rfl | rw [if_neg h]
theorem doF_next (H : R = doF t (d.drop k) fr out) (hk : k < d.length) (h1 : ¬ t.length < d[k].at_.toNat + d[k].less.length) (h : (t.drop d[k].at_.toNat).take d[k].less.length = d[k].less) :
    R = doF t (d.drop (k + 1)) (d[k].at_.toNat + d[k].less.length) (out ++ cutF t fr d[k].at_.toNat ++ d[k].more) := by
  rw [H, drop_cons d k hk, doF, if_neg h1, if_pos h]
theorem doF_end (H : R = doF t (d.drop k) fr out) (hk : ¬ k < d.length) : R = some (out ++ t.drop fr) := by
  rw [H, drop_nil d k hk, doF]
end
theorem pDo_bad1 {t : List ByteArray} {d : List Hunk} (h : textB t = false) : pDo t d = ([], false) := by rw [pDo, if_neg (by rw [h]; simp)]
theorem pDo_bad2 {t : List ByteArray} {d : List Hunk} (h : patchB d = false) : pDo t d = ([], false) := by rw [pDo, if_neg (by rw [h]; simp)]
theorem pDo_ok {t : List ByteArray} {d : List Hunk} (h1 : textB t = true) (h2 : patchB d = true) : pDo t d = pDoF t d := by rw [pDo, if_pos ⟨h1, h2⟩]
theorem pDoF_none {t : List ByteArray} {d : List Hunk} {R : Option (List ByteArray)} (h : R = none) (e : doF t d 0 [] = R) : pDoF t d = ([], false) := by rw [pDoF, e, h]; rfl
theorem pDoF_long {t : List ByteArray} {d : List Hunk} {out : List ByteArray} (e : doF t d 0 [] = some out) (h : textB out = false) : pDoF t d = ([], false) := by rw [pDoF, e, pFin, if_neg (by rw [h]; simp)]
theorem pDoF_some {t : List ByteArray} {d : List Hunk} {out : List ByteArray} (e : doF t d 0 [] = some out) (h : textB out = true) : pDoF t d = (out, true) := by rw [pDoF, e, pFin, if_pos h]

/-- a patch taken back -/
def backF : List Hunk → Int → List Hunk
  | [], _ => []
  | h :: r, by_ => ⟨h.at_ + by_, h.more, h.less⟩ :: backF r (by_ + h.more.length - h.less.length)
def backT (d : List Hunk) : List Hunk := if patchB d = true then backF d 0 else []

/-- two patches together -/
def pOver (t : List ByteArray) (a b : List Hunk) : List Hunk × Bool :=
  if (pDo t a).2 = true ∧ (pDo (pDo t a).1 b).2 = true then (diffT t (pDo (pDo t a).1 b).1, true) else ([], false)
theorem pOver_bad1 {t : List ByteArray} {a b : List Hunk} (h : (pDo t a).2 = false) : pOver t a b = ([], false) := by rw [pOver, if_neg (by rw [h]; simp)]
theorem pOver_bad2 {t : List ByteArray} {a b : List Hunk} (h : (pDo (pDo t a).1 b).2 = false) : pOver t a b = ([], false) := by rw [pOver, if_neg (by rw [h]; simp)]
theorem pOver_ok {t : List ByteArray} {a b : List Hunk} (h1 : (pDo t a).2 = true) (h2 : (pDo (pDo t a).1 b).2 = true) : pOver t a b = (diffT t (pDo (pDo t a).1 b).1, true) := by rw [pOver, if_pos ⟨h1, h2⟩]
theorem pDo_text {t : List ByteArray} {d : List Hunk} (h : (pDo t d).2 = true) : textB t = true ∧ patchB d = true ∧ textB (pDo t d).1 = true := by
  unfold pDo at h ⊢
  by_cases hc : textB t = true ∧ patchB d = true
  · rw [if_pos hc] at h ⊢
    refine ⟨hc.1, hc.2, ?_⟩
    unfold pDoF at h ⊢
    cases hd : doF t d 0 [] with
    | none => rw [hd] at h; cases h
    | some out =>
      rw [hd] at h
      unfold pFin at h ⊢
      by_cases h3 : textB out = true
      · simp [h3]
      · simp [h3] at h
  · rw [if_neg hc] at h
    cases h

/-- two pieces have a line between -/
def apartB (x y : Hunk) : Bool := decide (x.at_ + x.less.length < y.at_) || decide (y.at_ + y.less.length < x.at_)
def freeF (a b : List Hunk) : Bool := a.all fun x => b.all fun y => apartB x y
def freeB (a b : List Hunk) : Bool := patchB a && patchB b && freeF a b
/-- a patch as it is behind another one -/
def shiftAt (a : List Hunk) (y : Hunk) : Int := a.foldl (fun at_ x => if x.at_ < y.at_ then at_ + x.more.length - x.less.length else at_) y.at_
def shiftF (a b : List Hunk) : List Hunk := b.map fun y => ⟨shiftAt a y, y.less, y.more⟩
def shiftT (a b : List Hunk) : List Hunk := if freeB a b = true then shiftF a b else []
end Go.Vc
namespace Go.Vc

/-- lines put behind parts; lines behind lines are one part -/
def putL (out : List Part) (ls : List ByteArray) : List Part :=
  if ls.length = 0 then out
  else if h : 0 < out.length then
    if out[out.length - 1].clash = true then out ++ [⟨false, ls, [], [], []⟩]
    else out.set (out.length - 1) ⟨out[out.length - 1].clash, out[out.length - 1].lines ++ ls, out[out.length - 1].old, out[out.length - 1].one, out[out.length - 1].two⟩
  else out ++ [⟨false, ls, [], [], []⟩]
theorem putL_nil {out : List Part} {ls : List ByteArray} (h : ls.length = 0) : putL out ls = out := by rw [putL, if_pos h]
theorem putL_first {out : List Part} {ls : List ByteArray} (h : ¬ ls.length = 0) (h1 : ¬ 0 < out.length) : putL out ls = out ++ [⟨false, ls, [], [], []⟩] := by rw [putL, if_neg h, dif_neg h1]
theorem putL_new {out : List Part} {ls : List ByteArray} (h : ¬ ls.length = 0) (h1 : 0 < out.length) (h2 : out[out.length - 1].clash = true) : putL out ls = out ++ [⟨false, ls, [], [], []⟩] := by rw [putL, if_neg h, dif_pos h1, if_pos h2]
theorem putL_more {out : List Part} {ls : List ByteArray} (h : ¬ ls.length = 0) (h1 : 0 < out.length) (h2 : out[out.length - 1].clash = false) :
    putL out ls = out.set (out.length - 1) ⟨out[out.length - 1].clash, out[out.length - 1].lines ++ ls, out[out.length - 1].old, out[out.length - 1].one, out[out.length - 1].two⟩ := by rw [putL, if_neg h, dif_pos h1, if_neg (by rw [h2]; simp)]
/-- what two sides made of a piece -/
def pieceG (out : List Part) (old one two : List ByteArray) : List Part :=
  if one = old ∨ one = two then putL out two else if two = old then putL out one else out ++ [⟨true, [], old, one, two⟩]
theorem pieceG_two {out : List Part} {old one two : List ByteArray} (h : one = old ∨ one = two) : pieceG out old one two = putL out two := by rw [pieceG, if_pos h]
theorem pieceG_one {out : List Part} {old one two : List ByteArray} (h : ¬ (one = old ∨ one = two)) (h2 : two = old) : pieceG out old one two = putL out one := by rw [pieceG, if_neg h, if_pos h2]
theorem pieceG_clash {out : List Part} {old one two : List ByteArray} (h : ¬ (one = old ∨ one = two)) (h2 : ¬ two = old) : pieceG out old one two = out ++ [⟨true, [], old, one, two⟩] := by rw [pieceG, if_neg h, if_neg h2]
def putO (o : List ByteArray) (i : Nat) (out : List Part) : List Part := if h : i < o.length then putL out [o[i]] else out
theorem putO_in {o : List ByteArray} {i : Nat} {out : List Part} (h : i < o.length) : putO o i out = putL out [o[i]] := by rw [putO, dif_pos h]
theorem putO_end {o : List ByteArray} {i : Nat} {out : List Part} (h : ¬ i < o.length) : putO o i out = out := by rw [putO, dif_neg h]
/-- parts, between lines that all three have -/
def mg (o a b : List ByteArray) : List Int → List Int → Nat → Nat → Nat → Nat → List Part → List Part
  | ma :: us, mb :: vs, i, fo, fa, fb, out =>
    if ma < 0 ∨ mb < 0 then mg o a b us vs (i + 1) fo fa fb out
    else mg o a b us vs (i + 1) (i + 1) (ma.toNat + 1) (mb.toNat + 1) (putO o i (pieceG out (cutF o fo i) (cutF a fa ma.toNat) (cutF b fb mb.toNat)))
  | _, _, _, _, _, _, out => out
def mergeT (o a b : List ByteArray) : List Part := mg o a b (pairsT o a) (pairsT o b) 0 0 0 0 []
section
variable {o a b : List ByteArray} {ps qs : List Int} {D out : List Part} {i fo fa fb : Nat}
theorem mg_neg (H : D = mg o a b (ps.drop i) (qs.drop i) i fo fa fb out) (hi : i < ps.length) (hj : i < qs.length) (h : ps[i] < 0 ∨ qs[i] < 0) : D = mg o a b (ps.drop (i + 1)) (qs.drop (i + 1)) (i + 1) fo fa fb out := by
  rw [H, drop_cons ps i hi, drop_cons qs i hj, mg, if_pos h]
theorem mg_put {n m : Nat} (H : D = mg o a b (ps.drop i) (qs.drop i) i fo fa fb out) (hi : i < ps.length) (hj : i < qs.length) (e : ps[i] = (n : Int)) (e' : qs[i] = (m : Int)) :
    D = mg o a b (ps.drop (i + 1)) (qs.drop (i + 1)) (i + 1) (i + 1) (n + 1) (m + 1) (putO o i (pieceG out (cutF o fo i) (cutF a fa n) (cutF b fb m))) := by
  rw [H, drop_cons ps i hi, drop_cons qs i hj, mg, if_neg (by omega), e, e', Int.toNat_natCast, Int.toNat_natCast]
theorem mg_end (H : D = mg o a b (ps.drop i) (qs.drop i) i fo fa fb out) (hi : ¬ i < ps.length) : D = out := by
  rw [H, drop_nil ps i hi, mg]
  intro _ _ _ _ h; simp at h
end
/-- no part has more than n lines, or more than 10 of a clash -/
def SmallP (out : List Part) (n : Nat) : Prop := out.length ≤ n ∧ ∀ p, p ∈ out → p.lines.length ≤ n ∧ p.old.length ≤ 10 ∧ p.one.length ≤ 10 ∧ p.two.length ≤ 10
theorem SmallP.nil (n : Nat) : SmallP [] n := ⟨Nat.zero_le _, fun _ h => by cases h⟩
theorem SmallP.mono {out : List Part} {n m : Nat} (h : SmallP out n) (hm : n ≤ m) : SmallP out m := ⟨by have := h.1; omega, fun p hp => by have := h.2 p hp; omega⟩
theorem SmallP.putL {out : List Part} {n m : Nat} {ls : List ByteArray} (h : SmallP out n) (hl : ls.length ≤ m) (hm : 1 ≤ m) : SmallP (putL out ls) (n + m) := by
  have happ : SmallP (out ++ [⟨false, ls, [], [], []⟩]) (n + m) := by
    refine ⟨by have := h.1; simp; omega, fun p hp => ?_⟩
    rcases List.mem_append.1 hp with hp | hp
    · have := h.2 p hp; omega
    · simp at hp; subst hp; simp; omega
  unfold Go.Vc.putL
  split
  · exact h.mono (by omega)
  · split
    · split
      · exact happ
      · rename_i h1 h2 h3
        refine ⟨by have := h.1; simp; omega, fun p hp => ?_⟩
        rcases List.mem_or_eq_of_mem_set hp with hp | rfl
        · have := h.2 p hp; omega
        · have := h.2 _ (List.getElem_mem (by omega : out.length - 1 < out.length))
          simp; omega
    · exact happ
theorem SmallP.putC {out : List Part} {n : Nat} {old one two : List ByteArray} (h : SmallP out n) (h1 : old.length ≤ 10) (h2 : one.length ≤ 10) (h3 : two.length ≤ 10) : SmallP (out ++ [⟨true, [], old, one, two⟩]) (n + 1) := by
  refine ⟨by have := h.1; simp; omega, fun p hp => ?_⟩
  rcases List.mem_append.1 hp with hp | hp
  · have := h.2 p hp; omega
  · simp at hp; subst hp; simp; omega
theorem SmallP.pieceG {out : List Part} {n : Nat} {old one two : List ByteArray} (h : SmallP out n) (h1 : old.length ≤ 10) (h2 : one.length ≤ 10) (h3 : two.length ≤ 10) : SmallP (pieceG out old one two) (n + 10) := by
  unfold Go.Vc.pieceG
  split
  · exact h.putL h3 (by omega)
  · split
    · exact h.putL h2 (by omega)
    · exact (h.putC h1 h2 h3).mono (by omega)
theorem SmallP.putO {out : List Part} {n : Nat} {o : List ByteArray} {i : Nat} (h : SmallP out n) : SmallP (putO o i out) (n + 1) := by
  unfold Go.Vc.putO
  split
  · exact h.putL (by simp) (by omega)
  · exact h.mono (by omega)
theorem cutF_le (a : List ByteArray) (f i : Nat) : (cutF a f i).length ≤ a.length := by unfold cutF; simp; omega
theorem SmallP.mg (o a b : List ByteArray) (ho : o.length ≤ 10) (ha : a.length ≤ 10) (hb : b.length ≤ 10) : ∀ (ps qs : List Int) (i fo fa fb : Nat) (out : List Part) (n : Nat), SmallP out n → SmallP (mg o a b ps qs i fo fa fb out) (n + 11 * ps.length)
  | [], _, _, _, _, _, out, n, h => by rw [Go.Vc.mg]; exact h.mono (by simp); intro _ _ _ _ h; cases h
  | _ :: _, [], _, _, _, _, out, n, h => by rw [Go.Vc.mg]; exact h.mono (by omega); intro _ _ _ _ _ h; cases h
  | p :: ps, q :: qs, i, fo, fa, fb, out, n, h => by
    rw [Go.Vc.mg]
    split
    · exact (SmallP.mg o a b ho ha hb ps qs _ _ _ _ out n h).mono (by simp; omega)
    · have := cutF_le o fo i
      have := cutF_le a fa p.toNat
      have := cutF_le b fb q.toNat
      exact (SmallP.mg o a b ho ha hb ps qs _ _ _ _ _ _ ((h.pieceG (by omega) (by omega) (by omega)).putO)).mono (by simp; omega)
theorem mergeT_small {o a b : List ByteArray} (ho : o.length ≤ 10) (ha : a.length ≤ 10) (hb : b.length ≤ 10) : SmallP (mergeT o a b) 121 := by
  refine (SmallP.mg o a b ho ha hb (pairsT o a) (pairsT o b) 0 0 0 0 [] 0 (SmallP.nil 0)).mono ?_
  rw [pairsT_len]; omega
theorem SmallP.at {out : List Part} {n : Nat} (h : SmallP out n) {k : Nat} (hk : k < out.length) : out[k].lines.length ≤ n ∧ out[k].old.length ≤ 10 ∧ out[k].one.length ≤ 10 ∧ out[k].two.length ≤ 10 := h.2 _ (List.getElem_mem hk)

def threeB (o a b : List ByteArray) : Bool := textB o && textB a && textB b
theorem three_bad1 {o a b : List ByteArray} (h : textB o = false) : threeB o a b = false := by rw [threeB, h]; rfl
theorem three_bad2 {o a b : List ByteArray} (h : textB a = false) : threeB o a b = false := by rw [threeB, h]; simp
theorem three_bad3 {o a b : List ByteArray} (h : textB b = false) : threeB o a b = false := by rw [threeB, h]; simp
theorem three_iff {o a b : List ByteArray} : threeB o a b = true ↔ textB o = true ∧ textB a = true ∧ textB b = true := by simp [threeB, and_assoc]
def mOf (o a b : List ByteArray) : List Part := if threeB o a b = true then mergeT o a b else []
/-- all lines, if nothing clashes -/
def textF : List Part → List ByteArray → Option (List ByteArray)
  | [], out => some out
  | p :: r, out => if p.clash = true then none else textF r (out ++ p.lines)
def sideOf (s : Int) (p : Part) : List ByteArray := if p.clash = true then (if s = 0 then p.old else if s = 1 then p.one else p.two) else p.lines
def sideF (s : Int) (ps : List Part) : List ByteArray := (ps.map (sideOf s)).flatten
def showOf (p : Part) : List ByteArray := if p.clash = true then [⟨#[60, 60, 60]⟩] ++ p.one ++ [⟨#[61, 61, 61]⟩] ++ p.two ++ [⟨#[62, 62, 62]⟩] else p.lines
def showF (ps : List Part) : List ByteArray := (ps.map showOf).flatten
def mText (o a b : List ByteArray) : List ByteArray × Bool := if threeB o a b = true then pFin (textF (mergeT o a b) []) else ([], false)
def mSide (o a b : List ByteArray) (s : Int) : List ByteArray × Bool := if threeB o a b = true ∧ withinB s 0 2 = true then pFin (some (sideF s (mergeT o a b))) else ([], false)
def mClash (o a b : List ByteArray) : Int := if threeB o a b = true then ((mergeT o a b).filter (·.clash)).length else -1
def mShow (o a b : List ByteArray) : List ByteArray := showF (mOf o a b)
section
variable {ps : List Part} {k : Nat} {R : Option (List ByteArray)} {out L : List ByteArray}
theorem textF_clash (H : R = textF (ps.drop k) out) (hk : k < ps.length) (h : ps[k].clash = true) : R = none := by rw [H, drop_cons ps k hk, textF, if_pos h]
theorem textF_next (H : R = textF (ps.drop k) out) (hk : k < ps.length) (h : ps[k].clash = false) : R = textF (ps.drop (k + 1)) (out ++ ps[k].lines) := by rw [H, drop_cons ps k hk, textF, if_neg (by rw [h]; simp)]
theorem textF_end (H : R = textF (ps.drop k) out) (hk : ¬ k < ps.length) : R = some out := by rw [H, drop_nil ps k hk, textF]
theorem sideF_next {s : Int} (H : L = out ++ sideF s (ps.drop k)) (hk : k < ps.length) : L = (out ++ sideOf s ps[k]) ++ sideF s (ps.drop (k + 1)) := by rw [H, drop_cons ps k hk, sideF, List.map_cons, List.flatten_cons, List.append_assoc]; rfl
theorem sideF_end {s : Int} (H : L = out ++ sideF s (ps.drop k)) (hk : ¬ k < ps.length) : L = out := by rw [H, drop_nil ps k hk]; simp [sideF]
theorem showF_next (H : L = out ++ showF (ps.drop k)) (hk : k < ps.length) : L = (out ++ showOf ps[k]) ++ showF (ps.drop (k + 1)) := by rw [H, drop_cons ps k hk, showF, List.map_cons, List.flatten_cons, List.append_assoc]; rfl
theorem showF_end (H : L = out ++ showF (ps.drop k)) (hk : ¬ k < ps.length) : L = out := by rw [H, drop_nil ps k hk]; simp [showF]
end
end Go.Vc
