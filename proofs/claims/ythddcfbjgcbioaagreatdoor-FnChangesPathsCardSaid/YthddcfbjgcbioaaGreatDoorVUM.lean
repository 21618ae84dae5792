/-
  Walks: the files at a path. / Plain functions: files moved. No program is in sight here.
-/
import Derived.Test.YthddcfbjgcbioaaGreatDoorVR
import Derived.Test.YthddcfbjgcbioaaGreatDoorVPB
import Derived.Test.YthddcfbjgcbioaaGreatDoorVL
import Derived.Test.YthddcfbjgcbioaaGreatDoorVTR
set_option linter.unusedVariables false
namespace Go.Proofs.YthddcfbjgcbioaaGreatDoor
open Go.RowKit Go.Vc
open Go.Vc.Rep (rd)
open Go.Vc.Own (own)


end Go.Proofs.YthddcfbjgcbioaaGreatDoor
namespace Go.Vc
def mvP (path dst p : ByteArray) : ByteArray := dst ++ p.extract path.size p.size
def mvF (path dst : ByteArray) (f : File) : File := ⟨mvP path dst f.path, f.text⟩
/-- what is at a path, or below it, put into b under another path -/
def movG (path dst : ByteArray) : List File → List File → List File
  | b, [] => b
  | b, f :: r => movG path dst (if isAtB path f.path = true then setT b (mvF path dst f) else b) r
def movedT (t : List File) (path dst : ByteArray) : List File := movG path dst (dropT t path) t
def moveB (t : List File) (path dst : ByteArray) : Bool := treeB t && (decide ((dropT t path).length < t.length) && (pathB dst && (treeB (movedT t path dst) && decide ((movedT t path dst).length = t.length))))
def treeMove (t : List File) (path dst : ByteArray) : List File := if treeB t = true then (if moveB t path dst = true then movedT t path dst else t) else []
theorem isAt_size {path p : ByteArray} (h : isAtB path p = true) : path.size ≤ p.size := by
  unfold isAtB at h
  rw [Bool.or_eq_true] at h
  rcases h with h | h
  · rw [of_decide_eq_true h]; exact Nat.le_refl _
  · by_cases hl : path.size < p.size
    · omega
    · rw [inB_short hl] at h; cases h
theorem mvP_size {path dst p : ByteArray} (h : path.size ≤ p.size) : (mvP path dst p).size = dst.size + (p.size - path.size) := by
  unfold mvP
  rw [append_size]
  simp
section
variable {path dst : ByteArray} {t : List File} {M b : List File} {k : Nat}
theorem mov_yes (H : M = movG path dst b (t.drop k)) (h : k < t.length) (hp : isAtB path t[k].path = true) : M = movG path dst (setT b (mvF path dst t[k])) (t.drop (k + 1)) := by
  rw [H, drop_cons t k h, movG, if_pos hp]
theorem mov_no (H : M = movG path dst b (t.drop k)) (h : k < t.length) (hp : isAtB path t[k].path = false) : M = movG path dst b (t.drop (k + 1)) := by
  rw [H, drop_cons t k h, movG, if_neg (by rw [hp]; simp)]
theorem mov_end (H : M = movG path dst b (t.drop k)) (h : ¬ k < t.length) : M = b := by
  rw [H, drop_nil t k h, movG]
end
theorem movG_len (path dst : ByteArray) : ∀ (r b : List File), (movG path dst b r).length ≤ b.length + (r.filter fun f => isAtB path f.path).length
  | [], b => Nat.le_refl _
  | f :: r, b => by
    rw [movG]
    cases hp : isAtB path f.path with
    | true =>
      rw [if_pos rfl, List.filter_cons_of_pos (by exact hp), List.length_cons]
      have h1 := movG_len path dst r (setT b (mvF path dst f))
      have h2 := setT_len b (mvF path dst f)
      omega
    | false =>
      rw [if_neg (by simp), List.filter_cons_of_neg (by rw [hp]; simp)]
      exact movG_len path dst r b
theorem drop_parts (path : ByteArray) : ∀ (t : List File), (dropT t path).length + (t.filter fun f => isAtB path f.path).length = t.length
  | [] => rfl
  | f :: r => by
    have := drop_parts path r
    unfold dropT at this ⊢
    cases hp : isAtB path f.path with
    | true =>
      rw [List.filter_cons_of_neg (by rw [hp]; simp), List.filter_cons_of_pos (by exact hp), List.length_cons, List.length_cons]
      omega
    | false =>
      rw [List.filter_cons_of_pos (by rw [hp]; rfl), List.filter_cons_of_neg (by rw [hp]; simp), List.length_cons, List.length_cons]
      omega
theorem asc_set {t : List File} (h : AscF t) (f : File) : AscF (setT t f) := by
  obtain ⟨A, M, B, h1, h2, h3, h4, h5⟩ := tset_split f h
  rw [h2]
  rw [h1] at h
  unfold AscF at h ⊢
  obtain ⟨p1, p2, p3⟩ := List.pairwise_append.1 h
  obtain ⟨p4, p5, p6⟩ := List.pairwise_append.1 p2
  refine List.pairwise_append.2 ⟨p1, List.pairwise_cons.2 ⟨h4, p5⟩, fun a ha b hb => ?_⟩
  rcases List.mem_cons.1 hb with rfl | hb
  · exact h3 a ha
  · exact p3 a ha b (List.mem_append.2 (.inr hb))
/-- a file behind all others -/
theorem tset_behind {f : File} : ∀ {ol : List File}, (∀ a, a ∈ ol → lessB a.path f.path = true) → setT ol f = ol ++ [f]
  | [], _ => rfl
  | a :: r, hlt => by
    have hl := hlt a (List.mem_cons_self ..)
    have e : ¬ a.path = f.path := fun e => by rw [e, lessB_irr] at hl; cases hl
    unfold setT
    rw [setG, hl, if_neg (by simp), if_neg e]
    show a :: setT r f = _
    rw [tset_behind fun x hx => hlt x (List.mem_cons_of_mem _ hx)]
    rfl
theorem tset_last {ol rest : List File} {f : File} (h : AscF (ol ++ [f] ++ rest)) : setT ol f = ol ++ [f] ∧ AscF ol := by
  unfold AscF at h
  obtain ⟨p1, _, _⟩ := List.pairwise_append.1 h
  obtain ⟨p2, _, p3⟩ := List.pairwise_append.1 p1
  exact ⟨tset_behind fun a ha => p3 a ha f (List.mem_singleton.2 rfl), p2⟩
theorem drop_asc {t : List File} (h : AscF t) (path : ByteArray) : AscF (dropT t path) := h.filter _
theorem move_ok {t : List File} {path dst : ByteArray} (h : treeB t = true) : treeMove t path dst = if moveB t path dst = true then movedT t path dst else t := if_pos h
theorem move_bad {t : List File} {path dst : ByteArray} (h : treeB t = false) : treeMove t path dst = [] := if_neg (by rw [h]; simp)
theorem moveB_bad {t : List File} {path dst : ByteArray} (h : treeB t = false) : moveB t path dst = false := by unfold moveB; rw [h]; rfl
theorem moveB_none {t : List File} {path dst : ByteArray} (h : ¬ (dropT t path).length < t.length) : moveB t path dst = false := by
  unfold moveB; rw [decide_eq_false h]; simp
theorem moveB_path {t : List File} {path dst : ByteArray} (h : pathB dst = false) : moveB t path dst = false := by
  unfold moveB; rw [h]; simp
theorem moveB_len {t : List File} {path dst : ByteArray} (h : ¬ (movedT t path dst).length = t.length) : moveB t path dst = false := by
  unfold moveB; rw [decide_eq_false h]; simp
theorem moveB_is {t : List File} {path dst : ByteArray} (h1 : treeB t = true) (h2 : (dropT t path).length < t.length) (h3 : pathB dst = true) (h4 : (movedT t path dst).length = t.length) : moveB t path dst = treeB (movedT t path dst) := by
  unfold moveB; rw [h1, decide_eq_true h2, h3, decide_eq_true h4]; simp
/-- how far the program's second loop has come -/
structure MvInv (t : List File) (path : ByteArray) (D k : Nat) (cur : List File) (c : Bool) : Prop where
  asc : AscF cur
  txt : ∀ g, g ∈ cur → g.text.length ≤ 10 ∧ g.path.size ≤ 2097152
  cnt : cur.length + ((t.drop k).filter fun f => isAtB path f.path).length = t.length
  ge : D ≤ cur.length
  fnd : c = decide (D < cur.length)
section
variable {t cur M : List File} {path dst : ByteArray} {D k : Nat} {c : Bool}
theorem mvInv_start (h : treeB t = true) (hZ : ∀ f, f ∈ t → f.path.size ≤ 1048576) : MvInv t path (dropT t path).length 0 (dropT t path) false :=
  ⟨drop_asc (asc_tree h) path, fun g hg => by
    have hg := (List.mem_filter.1 hg).1
    exact ⟨(tree_files h).2 g hg, Nat.le_trans (hZ g hg) (by omega)⟩, drop_parts path t, Nat.le_refl _, by rw [decide_eq_false (by omega)]⟩
theorem mvInv_no (H : MvInv t path D k cur c) (h : k < t.length) (hp : isAtB path t[k].path = false) : MvInv t path D (k + 1) cur c := by
  refine ⟨H.asc, H.txt, ?_, H.ge, H.fnd⟩
  have := H.cnt
  rw [drop_cons t k h, List.filter_cons_of_neg (by rw [hp]; simp)] at this
  exact this
theorem mvInv_yes (H : MvInv t path D k cur c) (h : k < t.length) (hp : isAtB path t[k].path = true) (hT : treeB t = true) (hz : (mvP path dst t[k].path).size ≤ 2097152) (hl : (setT cur (mvF path dst t[k])).length = cur.length + 1) : MvInv t path D (k + 1) (setT cur (mvF path dst t[k])) true := by
  refine ⟨asc_set H.asc _, fun g hg => ?_, ?_, ?_, ?_⟩
  · rcases setG_mem hg with rfl | hg
    · exact ⟨(tree_files hT).2 t[k] (List.getElem_mem h), hz⟩
    · exact H.txt g hg
  · have := H.cnt
    rw [drop_cons t k h, List.filter_cons_of_pos (by exact hp), List.length_cons] at this
    omega
  · have := H.ge; omega
  · have := H.ge
    rw [decide_eq_true (by omega)]
theorem mvInv_bad (H : MvInv t path D k cur c) (h : k < t.length) (hp : isAtB path t[k].path = true) (hM : M = movG path dst cur (t.drop k)) (hl : ¬ (setT cur (mvF path dst t[k])).length = cur.length + 1) : ¬ M.length = t.length := by
  have h1 := mov_yes hM h hp
  have h2 := movG_len path dst (t.drop (k + 1)) (setT cur (mvF path dst t[k]))
  have h3 := setT_len cur (mvF path dst t[k])
  have h4 := H.cnt
  rw [drop_cons t k h, List.filter_cons_of_pos (by exact hp), List.length_cons] at h4
  rw [h1]
  omega
theorem mvInv_end (H : MvInv t path D k cur c) (h : ¬ k < t.length) : cur.length = t.length := by
  have := H.cnt
  rw [drop_nil t k h] at this
  simpa using this
end
end Go.Vc
