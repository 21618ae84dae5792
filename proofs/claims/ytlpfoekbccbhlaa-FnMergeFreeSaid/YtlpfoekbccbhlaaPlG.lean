/-
  Plain functions: merges. No program is in sight here.
-/
import Derived.Test.YtlpfoekbccbhlaaPart0
import Derived.Test.YtlpfoekbccbhlaaVPM
set_option linter.unusedVariables false
namespace Go.Vc

/-- lines put behind parts; lines behind lines are one part -/
def putL (out : List Part) (ls : List ByteArray) : List Part :=
  if ls.length = 0 then out
  else if h : 0 < out.length then
    if out[out.length - 1].clash = true then out ++ [⟨false, ls, [], [], []⟩]
    else out.set (out.length - 1) ⟨out[out.length - 1].clash, out[out.length - 1].lines ++ ls, out[out.length - 1].old, out[out.length - 1].one, out[out.length - 1].two⟩
  else out ++ [⟨false, ls, [], [], []⟩]
theorem putL_nil {out : List Part} {ls : List ByteArray} (h : ls.length = 0) : putL out ls = out := by rw [putL, if_pos h]
theorem putL_first {out : List Part} {ls : List ByteArray} (h : ¬ ls.length = 0) (h1 : ¬ 0 < out.length) : putL out ls = out ++ [⟨false, ls, [], [], []⟩] := by rw [putL, if_neg h, dif_neg h1]
theorem putL_new {out : List Part} {ls : List ByteArray} (h : ¬ ls.length = 0) (h1 : 0 < out.length) (h2 : out[out.length - 1].clash = true) : putL out ls = out ++ [⟨false, ls, [], [], []⟩] := by rw [putL, if_neg h, dif_pos h1, if_pos h2]
theorem putL_more {out : List Part} {ls : List ByteArray} (h : ¬ ls.length = 0) (h1 : 0 < out.length) (h2 : out[out.length - 1].clash = false) :
    putL out ls = out.set (out.length - 1) ⟨out[out.length - 1].clash, out[out.length - 1].lines ++ ls, out[out.length - 1].old, out[out.length - 1].one, out[out.length - 1].two⟩ := by rw [putL, if_neg h, dif_pos h1, if_neg (by rw [h2]; simp)]
/-- what two sides made of a piece -/
def pieceG (out : List Part) (old one two : List ByteArray) : List Part :=
  if one = old ∨ one = two then putL out two else if two = old then putL out one else out ++ [⟨true, [], old, one, two⟩]
theorem pieceG_two {out : List Part} {old one two : List ByteArray} (h : one = old ∨ one = two) : pieceG out old one two = putL out two := by rw [pieceG, if_pos h]
theorem pieceG_one {out : List Part} {old one two : List ByteArray} (h : ¬ (one = old ∨ one = two)) (h2 : two = old) : pieceG out old one two = putL out one := by rw [pieceG, if_neg h, if_pos h2]
theorem pieceG_clash {out : List Part} {old one two : List ByteArray} (h : ¬ (one = old ∨ one = two)) (h2 : ¬ two = old) : pieceG out old one two = out ++ [⟨true, [], old, one, two⟩] := by rw [pieceG, if_neg h, if_neg h2]
def putO (o : List ByteArray) (i : Nat) (out : List Part) : List Part := if h : i < o.length then putL out [o[i]] else out
theorem putO_in {o : List ByteArray} {i : Nat} {out : List Part} (h : i < o.length) : putO o i out = putL out [o[i]] := by rw [putO, dif_pos h]
theorem putO_end {o : List ByteArray} {i : Nat} {out : List Part} (h : ¬ i < o.length) : putO o i out = out := by rw [putO, dif_neg h]
/-- parts, between lines that all three have -/
def mg (o a b : List ByteArray) : List Int → List Int → Nat → Nat → Nat → Nat → List Part → List Part
  | ma :: us, mb :: vs, i, fo, fa, fb, out =>
    if ma < 0 ∨ mb < 0 then mg o a b us vs (i + 1) fo fa fb out
    else mg o a b us vs (i + 1) (i + 1) (ma.toNat + 1) (mb.toNat + 1) (putO o i (pieceG out (cutF o fo i) (cutF a fa ma.toNat) (cutF b fb mb.toNat)))
  | _, _, _, _, _, _, out => out
def mergeT (o a b : List ByteArray) : List Part := mg o a b (pairsT o a) (pairsT o b) 0 0 0 0 []
section
variable {o a b : List ByteArray} {ps qs : List Int} {D out : List Part} {i fo fa fb : Nat}
theorem mg_neg (H : D = mg o a b (ps.drop i) (qs.drop i) i fo fa fb out) (hi : i < ps.length) (hj : i < qs.length) (h : ps[i] < 0 ∨ qs[i] < 0) : D = mg o a b (ps.drop (i + 1)) (qs.drop (i + 1)) (i + 1) fo fa fb out := by
  rw [H, drop_cons ps i hi, drop_cons qs i hj, mg, if_pos h]
theorem mg_put {n m : Nat} (H : D = mg o a b (ps.drop i) (qs.drop i) i fo fa fb out) (hi : i < ps.length) (hj : i < qs.length) (e : ps[i] = (n : Int)) (e' : qs[i] = (m : Int)) :
    D = mg o a b (ps.drop (i + 1)) (qs.drop (i + 1)) (i + 1) (i + 1) (n + 1) (m + 1) (putO o i (pieceG out (cutF o fo i) (cutF a fa n) (cutF b fb m))) := by
  rw [H, drop_cons ps i hi, drop_cons qs i hj, mg, if_neg (by omega), e, e', Int.toNat_natCast, Int.toNat_natCast]
theorem mg_end (H : D = mg o a b (ps.drop i) (qs.drop i) i fo fa fb out) (hi : ¬ i < ps.length) : D = out := by
  rw [H, drop_nil ps i hi, mg]
  intro _ _ _ _ h; simp at h
end
/-- no part has more than n lines, or more than 10 of a clash -/
def SmallP (out : List Part) (n : Nat) : Prop := out.length ≤ n ∧ ∀ p, p ∈ out → p.lines.length ≤ n ∧ p.old.length ≤ 10 ∧ p.one.length ≤ 10 ∧ p.two.length ≤ 10
theorem SmallP.nil (n : Nat) : SmallP [] n := ⟨Nat.zero_le _, fun _ h => by cases h⟩
theorem SmallP.mono {out : List Part} {n m : Nat} (h : SmallP out n) (hm : n ≤ m) : SmallP out m := ⟨by have := h.1; omega, fun p hp => by have := h.2 p hp; omega⟩
theorem SmallP.putL {out : List Part} {n m : Nat} {ls : List ByteArray} (h : SmallP out n) (hl : ls.length ≤ m) (hm : 1 ≤ m) : SmallP (putL out ls) (n + m) := by
  have happ : SmallP (out ++ [⟨false, ls, [], [], []⟩]) (n + m) := by
    refine ⟨by have := h.1; simp; omega, fun p hp => ?_⟩
    rcases List.mem_append.1 hp with hp | hp
    · have := h.2 p hp; omega
    · simp at hp; subst hp; simp; omega
  unfold Go.Vc.putL
  split
  · exact h.mono (by omega)
  · split
    · split
      · exact happ
      · rename_i h1 h2 h3
        refine ⟨by have := h.1; simp; omega, fun p hp => ?_⟩
        rcases List.mem_or_eq_of_mem_set hp with hp | rfl
        · have := h.2 p hp; omega
        · have := h.2 _ (List.getElem_mem (by omega : out.length - 1 < out.length))
          simp; omega
    · exact happ
theorem SmallP.putC {out : List Part} {n : Nat} {old one two : List ByteArray} (h : SmallP out n) (h1 : old.length ≤ 10) (h2 : one.length ≤ 10) (h3 : two.length ≤ 10) : SmallP (out ++ [⟨true, [], old, one, two⟩]) (n + 1) := by
  refine ⟨by have := h.1; simp; omega, fun p hp => ?_⟩
  rcases List.mem_append.1 hp with hp | hp
  · have := h.2 p hp; omega
  · simp at hp; subst hp; simp; omega
theorem SmallP.pieceG {out : List Part} {n : Nat} {old one two : List ByteArray} (h : SmallP out n) (h1 : old.length ≤ 10) (h2 : one.length ≤ 10) (h3 : two.length ≤ 10) : SmallP (pieceG out old one two) (n + 10) := by
  unfold Go.Vc.pieceG
  split
  · exact h.putL h3 (by omega)
  · split
    · exact h.putL h2 (by omega)
    · exact (h.putC h1 h2 h3).mono (by omega)
theorem SmallP.putO {out : List Part} {n : Nat} {o : List ByteArray} {i : Nat} (h : SmallP out n) : SmallP (putO o i out) (n + 1) := by
  unfold Go.Vc.putO
  split
  · exact h.putL (by simp) (by omega)
  · exact h.mono (by omega)
theorem cutF_le (a : List ByteArray) (f i : Nat) : (cutF a f i).length ≤ a.length := by unfold cutF; simp; omega
theorem SmallP.mg (o a b : List ByteArray) (ho : o.length ≤ 10) (ha : a.length ≤ 10) (hb : b.length ≤ 10) : ∀ (ps qs : List Int) (i fo fa fb : Nat) (out : List Part) (n : Nat), SmallP out n → SmallP (mg o a b ps qs i fo fa fb out) (n + 11 * ps.length)
  | [], _, _, _, _, _, out, n, h => by rw [Go.Vc.mg]; exact h.mono (by simp); intro _ _ _ _ h; cases h
  | _ :: _, [], _, _, _, _, out, n, h => by rw [Go.Vc.mg]; exact h.mono (by omega); intro _ _ _ _ _ h; cases h
  | p :: ps, q :: qs, i, fo, fa, fb, out, n, h => by
    rw [Go.Vc.mg]
    split
    · exact (SmallP.mg o a b ho ha hb ps qs _ _ _ _ out n h).mono (by simp; omega)
    · have := cutF_le o fo i
      have := cutF_le a fa p.toNat
      have := cutF_le b fb q.toNat
      exact (SmallP.mg o a b ho ha hb ps qs _ _ _ _ _ _ ((h.pieceG (by omega) (by omega) (by omega)).putO)).mono (by simp; omega)
theorem mergeT_small {o a b : List ByteArray} (ho : o.length ≤ 10) (ha : a.length ≤ 10) (hb : b.length ≤ 10) : SmallP (mergeT o a b) 121 := by
  refine (SmallP.mg o a b ho ha hb (pairsT o a) (pairsT o b) 0 0 0 0 [] 0 (SmallP.nil 0)).mono ?_
  rw [pairsT_len]; omega
theorem SmallP.at {out : List Part} {n : Nat} (h : SmallP out n) {k : Nat} (hk : k < out.length) : out[k].lines.length ≤ n ∧ out[k].old.length ≤ 10 ∧ out[k].one.length ≤ 10 ∧ out[k].two.length ≤ 10 := h.2 _ (List.getElem_mem hk)

def threeB (o a b : List ByteArray) : Bool := textB o && textB a && textB b
theorem three_bad1 {o a b : List ByteArray} (h : textB o = false) : threeB o a b = false := by rw [threeB, h]; rfl
theorem three_bad2 {o a b : List ByteArray} (h : textB a = false) : threeB o a b = false := by rw [threeB, h]; simp
theorem three_bad3 {o a b : List ByteArray} (h : textB b = false) : threeB o a b = false := by rw [threeB, h]; simp
theorem three_iff {o a b : List ByteArray} : threeB o a b = true ↔ textB o = true ∧ textB a = true ∧ textB b = true := by simp [threeB, and_assoc]
def mOf (o a b : List ByteArray) : List Part := if threeB o a b = true then mergeT o a b else []
/-- all lines, if nothing clashes -/
def textF : List Part → List ByteArray → Option (List ByteArray)
  | [], out => some out
  | p :: r, out => if p.clash = true then none else textF r (out ++ p.lines)
def sideOf (s : Int) (p : Part) : List ByteArray := if p.clash = true then (if s = 0 then p.old else if s = 1 then p.one else p.two) else p.lines
def sideF (s : Int) (ps : List Part) : List ByteArray := (ps.map (sideOf s)).flatten
def showOf (p : Part) : List ByteArray := if p.clash = true then [⟨#[60, 60, 60]⟩] ++ p.one ++ [⟨#[61, 61, 61]⟩] ++ p.two ++ [⟨#[62, 62, 62]⟩] else p.lines
def showF (ps : List Part) : List ByteArray := (ps.map showOf).flatten
def mText (o a b : List ByteArray) : List ByteArray × Bool := if threeB o a b = true then pFin (textF (mergeT o a b) []) else ([], false)
def mSide (o a b : List ByteArray) (s : Int) : List ByteArray × Bool := if threeB o a b = true ∧ withinB s 0 2 = true then pFin (some (sideF s (mergeT o a b))) else ([], false)
def mClash (o a b : List ByteArray) : Int := if threeB o a b = true then ((mergeT o a b).filter (·.clash)).length else -1
def mShow (o a b : List ByteArray) : List ByteArray := showF (mOf o a b)
section
variable {ps : List Part} {k : Nat} {R : Option (List ByteArray)} {out L : List ByteArray}
theorem textF_clash (H : R = textF (ps.drop k) out) (hk : k < ps.length) (h : ps[k].clash = true) : R = none := by rw [H, drop_cons ps k hk, textF, if_pos h]
theorem textF_next (H : R = textF (ps.drop k) out) (hk : k < ps.length) (h : ps[k].clash = false) : R = textF (ps.drop (k + 1)) (out ++ ps[k].lines) := by rw [H, drop_cons ps k hk, textF, if_neg (by rw [h]; simp)]
theorem textF_end (H : R = textF (ps.drop k) out) (hk : ¬ k < ps.length) : R = some out := by rw [H, drop_nil ps k hk, textF]
theorem sideF_next {s : Int} (H : L = out ++ sideF s (ps.drop k)) (hk : k < ps.length) : L = (out ++ sideOf s ps[k]) ++ sideF s (ps.drop (k + 1)) := by rw [H, drop_cons ps k hk, sideF, List.map_cons, List.flatten_cons, List.append_assoc]; rfl
theorem sideF_end {s : Int} (H : L = out ++ sideF s (ps.drop k)) (hk : ¬ k < ps.length) : L = out := by rw [H, drop_nil ps k hk]; simp [sideF]
theorem showF_next (H : L = out ++ showF (ps.drop k)) (hk : k < ps.length) : L = (out ++ showOf ps[k]) ++ showF (ps.drop (k + 1)) := by rw [H, drop_cons ps k hk, showF, List.map_cons, List.flatten_cons, List.append_assoc]; rfl
theorem showF_end (H : L = out ++ showF (ps.drop k)) (hk : ¬ k < ps.length) : L = out := by rw [H, drop_nil ps k hk]; simp [showF]
end
end Go.Vc
