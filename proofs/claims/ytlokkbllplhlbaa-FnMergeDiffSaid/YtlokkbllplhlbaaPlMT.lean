/-
  Plain functions: the text of a merge. No program is in sight here.
-/
import Derived.Test.YtlokkbllplhlbaaPlMS
import Derived.Test.YtlokkbllplhlbaaPlPO
set_option linter.unusedVariables false
namespace Go.Vc

/-- what becomes of a piece, if it does not clash -/
def pieceT (old one two : List ByteArray) : Option (List ByteArray) := if one = old ∨ one = two then some two else if two = old then some one else none
def oAt (o : List ByteArray) (i : Nat) : List ByteArray := if h : i < o.length then [o[i]] else []
/-- the text of a merge, if nothing clashes -/
def mgT (o a b : List ByteArray) : List Int → List Int → Nat → Nat → Nat → Nat → Option (List ByteArray)
  | ma :: us, mb :: vs, i, fo, fa, fb =>
    if ma < 0 ∨ mb < 0 then mgT o a b us vs (i + 1) fo fa fb
    else match pieceT (cutF o fo i) (cutF a fa ma.toNat) (cutF b fb mb.toNat), mgT o a b us vs (i + 1) (i + 1) (ma.toNat + 1) (mb.toNat + 1) with
      | some l, some r => some (l ++ oAt o i ++ r)
      | _, _ => none
  | _, _, _, _, _, _ => some []
def joinO : Option (List ByteArray) → Option (List ByteArray) → Option (List ByteArray)
  | some z, some r => some (z ++ r)
  | _, _ => none
theorem joinO_none (x : Option (List ByteArray)) : joinO x none = none := by cases x <;> rfl
theorem joinO_assoc (x y z : Option (List ByteArray)) : joinO (joinO x y) z = joinO x (joinO y z) := by
  cases x <;> cases y <;> cases z <;> simp [joinO]
theorem joinO_nil (x : Option (List ByteArray)) : joinO x (some []) = x := by cases x <;> simp [joinO]
def textP (P : List Part) : Option (List ByteArray) := textF P []
theorem textF_acc : ∀ (P : List Part) (acc : List ByteArray), textF P acc = joinO (some acc) (textF P [])
  | [], acc => by simp [textF, joinO]
  | p :: r, acc => by
    rw [textF, textF]
    split
    · rfl
    · rw [textF_acc r (acc ++ p.lines), textF_acc r ([] ++ p.lines), ← joinO_assoc]
      rfl
theorem textF_append : ∀ (P Q : List Part), textF (P ++ Q) [] = joinO (textF P []) (textF Q [])
  | [], Q => by simp only [List.nil_append, textF]; cases textF Q [] <;> simp [joinO]
  | p :: r, Q => by
    rw [List.cons_append, textF, textF]
    split
    · rfl
    · rw [textF_acc, textF_acc r, textF_append r Q, ← joinO_assoc]
theorem textF_one (ls : List ByteArray) : textF [(⟨false, ls, [], [], []⟩ : Part)] [] = some ls := by simp [textF]
theorem set_last {α : Type} : ∀ (xs : List α) (h : 0 < xs.length) (y : α), xs = xs.dropLast ++ [xs[xs.length - 1]] ∧ xs.set (xs.length - 1) y = xs.dropLast ++ [y]
  | [x], _, y => ⟨rfl, rfl⟩
  | x :: z :: r, _, y => by
    obtain ⟨h1, h2⟩ := set_last (z :: r) (by simp) y
    constructor
    · have e : (x :: z :: r).length - 1 = (z :: r).length - 1 + 1 := by simp
      simp only [e, List.getElem_cons_succ, List.dropLast_cons_cons]
      rw [List.cons_append, ← h1]
    · have e : (x :: z :: r).length - 1 = (z :: r).length - 1 + 1 := by simp
      rw [e, List.set_cons_succ, h2]; rfl
theorem putL_text (out : List Part) (ls : List ByteArray) : textF (putL out ls) [] = joinO (textF out []) (some ls) := by
  unfold putL
  split
  · rename_i h
    have : ls = [] := List.eq_nil_of_length_eq_zero h
    subst this
    exact (joinO_nil _).symm
  · split
    · rename_i h1 h2
      split
      · rw [textF_append, textF_one]
      · rename_i h3
        obtain ⟨e1, e2⟩ := set_last out h2 ⟨out[out.length - 1].clash, out[out.length - 1].lines ++ ls, out[out.length - 1].old, out[out.length - 1].one, out[out.length - 1].two⟩
        rw [e2]
        conv => rhs; rw [e1]
        rw [textF_append, textF_append, joinO_assoc]
        congr 1
        simp [textF, h3, joinO]
    · rw [textF_append, textF_one]
theorem pieceG_text (out : List Part) (old one two : List ByteArray) : textF (pieceG out old one two) [] = joinO (textF out []) (pieceT old one two) := by
  unfold pieceG pieceT
  split
  · exact putL_text _ _
  · split
    · exact putL_text _ _
    · rw [textF_append, joinO_none]
      simp [textF, joinO_none]
theorem putO_text (o : List ByteArray) (i : Nat) (out : List Part) : textF (putO o i out) [] = joinO (textF out []) (some (oAt o i)) := by
  unfold putO oAt
  split
  · exact putL_text _ _
  · exact (joinO_nil _).symm
theorem mgT_nilL (o a b : List ByteArray) (qs : List Int) (i fo fa fb : Nat) : mgT o a b [] qs i fo fa fb = some [] := by cases qs <;> rw [mgT] <;> (intros; simp_all)
theorem mgT_nilR (o a b : List ByteArray) (ps : List Int) (i fo fa fb : Nat) : mgT o a b ps [] i fo fa fb = some [] := by cases ps <;> rw [mgT] <;> (intros; simp_all)
theorem mg_text (o a b : List ByteArray) : ∀ (ps qs : List Int) (i fo fa fb : Nat) (out : List Part), textF (mg o a b ps qs i fo fa fb out) [] = joinO (textF out []) (mgT o a b ps qs i fo fa fb)
  | [], qs, i, fo, fa, fb, out => by
    rw [mgT_nilL, joinO_nil, mg]
    intro _ _ _ _ h; cases h
  | _ :: _, [], i, fo, fa, fb, out => by
    rw [mgT_nilR, joinO_nil, mg]
    intro _ _ _ _ _ h; cases h
  | p :: ps, q :: qs, i, fo, fa, fb, out => by
    rw [mg, mgT]
    split
    · exact mg_text o a b ps qs _ _ _ _ out
    · rw [mg_text o a b ps qs, putO_text, pieceG_text, joinO_assoc, joinO_assoc]
      congr 1
      cases pieceT (cutF o fo i) (cutF a fa p.toNat) (cutF b fb q.toNat) <;> cases mgT o a b ps qs (i + 1) (i + 1) (p.toNat + 1) (q.toNat + 1) <;> simp [joinO]
def mergeX (o a b : List ByteArray) : Option (List ByteArray) := mgT o a b (pairsT o a) (pairsT o b) 0 0 0 0
theorem merge_text (o a b : List ByteArray) : textF (mergeT o a b) [] = mergeX o a b := by
  unfold mergeT
  rw [mg_text]
  simp [textF, joinO, mergeX]
  cases mgT o a b (pairsT o a) (pairsT o b) 0 0 0 0 <;> rfl
theorem mText_merge (o a b : List ByteArray) : mText o a b = if threeB o a b = true then pFin (mergeX o a b) else ([], false) := by rw [mText, merge_text]
end Go.Vc
