/-
  A line of a text of an own slice of files written anew. No program is in sight here. / Plain functions: a file moved, and all lines that refer to it. No program is in sight here.
-/
import Derived.Test.YthddcfbjgcbioaaGreatDoorVB
import Derived.Test.YthddcfbjgcbioaaGreatDoorVC
import Derived.Test.YthddcfbjgcbioaaGreatDoorVUM
set_option linter.unusedVariables false
namespace Go.Vc
open Go.RowKit
open Rep (rd)
open Own (own)
theorem Fresh.setLine {B m : Nat} {w : World} {g n cap : Nat} {xs : List File} (h : Fresh B m w [.slice (some ⟨g, 0, none⟩) n cap] xs) (hm : m ≤ w.heap.size) {k : Nat} (hk : k < xs.length) {ad : Option Addr} {c2 : Nat}
    (hc : w.cell? ⟨g, k * 2 + 1, none⟩ = some (.slice ad xs[k].text.length c2)) {j : Nat} (hj : j < xs[k].text.length) {s : ByteArray} (hs : s.size ≤ maxLen) :
    ∃ g2, ad = some ⟨g2, 0, none⟩ ∧ B ≤ g2 ∧ g2 < m ∧ g2 ≠ g ∧ w.cell? ⟨g2, j, none⟩ = some (.string xs[k].text[j]) ∧ w.frozen? ⟨g2, j, none⟩ = false ∧
      Fresh B m (w.setCell ⟨g2, j, none⟩ (.string s)) [.slice (some ⟨g, 0, none⟩) n cap] (xs.set k ⟨xs[k].path, xs[k].text.set j s⟩) := by
  obtain ⟨F, ho, hn, hb⟩ := h
  obtain ⟨ce, Fi, hoi, hsub, hnFi, hgFi, hgF, hcells, hfz, hfoc⟩ := own_focus ho hn hk
  have hoi0 := hoi
  obtain ⟨v1, v2, F1, F2, hce, hFi, ⟨hF1, hv1, hz1⟩, ho2⟩ := hoi
  subst hF1
  rw [List.nil_append] at hFi
  subst hFi
  obtain ⟨tv, cs, Fs, hv2, hrow, hF2, hall, hz⟩ := id ho2
  subst hv1 hv2 hce
  have hc1 := hcells 1 tv rfl
  rw [show k * Rep.sz File + 1 = k * 2 + 1 from rfl, hc] at hc1
  injection hc1 with hc1
  subst hc1
  rcases hrow.2 with ⟨hh, hn0⟩ | ⟨g2, cap2, cur2, hh, _, hg2, hnc, hcm, hcs, htake⟩
  · have hn0 : xs[k].text.length = 0 := hn0
    omega
  · simp only [Value.slice.injEq] at hh
    obtain ⟨rfl, _, rfl⟩ := hh
    have hg2F : g2 ∈ Fi := by rw [hF2]; simp [Value.ownBlock]
    have hne : g2 ≠ g := fun e => hgFi (e ▸ hg2F)
    have hlt2 : g2 < w.heap.size := (Array.getElem?_eq_some_iff.1 hg2).1
    have hgl : g < w.heap.size := World.block_lt_of_cell? w _ hc
    obtain ⟨cj, Fj, hoj, _, _, _, _, hcj, hfz2, hfoc2⟩ := own_focus ho2 hnFi hj
    obtain ⟨hFj, hcj1, _⟩ := hoj
    subst hFj hcj1
    have hcell2 : w.cell? ⟨g2, j, none⟩ = some (.string xs[k].text[j]) := by
      have := hcj 0 _ rfl
      rwa [show j * Rep.sz ByteArray + 0 = j from by show j * 1 + 0 = j; omega] at this
    have hrest : ∀ b, b ≠ g2 → (w.setCell ⟨g2, j, none⟩ (.string s)).heap[b]? = w.heap[b]? := fun b hb => Below.heap_setCell w _ _ b hb
    obtain ⟨F3, ho3, hn3, hb3⟩ := hfoc2 (w.setCell ⟨g2, j, none⟩ (.string s)) [.string s] s [] ⟨rfl, rfl, hs⟩ List.nodup_nil (fun b hb => by cases hb) (fun b _ _ hb => hrest b hb) (fun cur e hcur => by
      refine ⟨cur.setIfInBounds j (.string s), heap_setCell_same w g2 j cur e _ hcur, by simp, fun i hi => ?_, fun i hi => ?_⟩
      · obtain rfl : i = 0 := by have : i < 1 := hi; omega
        rw [show j * Rep.sz ByteArray + 0 = j from by show j * 1 + 0 = j; omega]
        have hjc : j < cur.size := by
          have := hcell2
          rw [cell_of_row w g2 j cur e (0, 0) hcur] at this
          exact (Array.getElem?_eq_some_iff.1 this).1
        simp [hjc]
      · have hne : j ≠ i := by
          rw [show j * Rep.sz ByteArray = j from by show j * 1 = j; omega, show Rep.sz ByteArray = 1 from rfl] at hi
          omega
        rw [Array.getElem?_setIfInBounds_ne hne])
    obtain ⟨FF, hoF, hnF, hFF⟩ := hfoc (w.setCell ⟨g2, j, none⟩ (.string s)) [.string xs[k].path, .slice (some ⟨g2, 0, none⟩) xs[k].text.length c2] ⟨xs[k].path, xs[k].text.set j s⟩ F3 (by
        refine ⟨[_], [_], [], F3, rfl, by simp, ⟨rfl, rfl, hz1⟩, ?_⟩
        have := ho3
        exact this) hn3 (fun b hb => hb3 b hb) (fun b _ hb _ => hrest b fun e => hb (e ▸ hg2F)) (fun cur e hcur => by
      refine ⟨cur, by rw [hrest g hne.symm]; exact hcur, rfl, fun i hi => ?_, fun i _ => rfl⟩
      have hi2 : i < 2 := hi
      have key : ∀ u, ([Value.string xs[k].path, .slice (some ⟨g2, 0, none⟩) xs[k].text.length c2] : List Value)[i]? = some u → cur[k * Rep.sz File + i]? = some u := fun u hu => by
        have := hcells i u hu
        rwa [cell_of_row w g _ cur e (0, 0) hcur] at this
      rcases (show i = 0 ∨ i = 1 by omega) with rfl | rfl
      · rw [key _ rfl]; rfl
      · rw [key _ rfl]; rfl)
    refine ⟨g2, rfl, (hb g2 (hsub g2 hg2F)).1, (hb g2 (hsub g2 hg2F)).2, hne, hcell2, by have := hfz2 j; exact this, FF, hoF, hnF, fun b hbm => ?_⟩
    rcases hFF b hbm with h | h
    · exact hb b h
    · exfalso
      have hl := Own.lt hoF b hbm
      have hsz : (w.setCell ⟨g2, j, none⟩ (.string s)).heap.size = w.heap.size := by simp [World.setCell]
      omega
end Go.Vc
namespace Go.Vc
def lineM (path dst s : ByteArray) : ByteArray := if hitB path s = true then seeT ++ dst else s
def fileM (path dst : ByteArray) (f : File) : File := ⟨f.path, f.text.map (lineM path dst)⟩
def treeM (path dst : ByteArray) (x : List File) : List File := x.map (fileM path dst)
def ruleMoveB (t : List File) (path dst : ByteArray) : Bool := treeB t && ((getT t path).isSome && (moveB t path dst && treeB (treeM path dst (movedT t path dst))))
def ruleMove (t : List File) (path dst : ByteArray) : List File := if treeB t = true then (if ruleMoveB t path dst = true then treeM path dst (movedT t path dst) else t) else []
/-- the first k are as f says, the others as they were -/
def MapTo {α : Type} (f : α → α) (xs ys : List α) (k : Nat) : Prop := ys.length = xs.length ∧ ∀ i, (h : i < xs.length) → (h' : i < ys.length) → ys[i] = if i < k then f xs[i] else xs[i]
section
variable {α : Type} {f : α → α} {xs ys : List α} {k : Nat}
theorem mapTo_start (f : α → α) (xs : List α) : MapTo f xs xs 0 := ⟨rfl, fun i h h' => by simp⟩
theorem mapTo_at (H : MapTo f xs ys k) (h : k < xs.length) : ∃ h' : k < ys.length, ys[k] = xs[k] := ⟨by rw [H.1]; exact h, by rw [H.2 k h (by rw [H.1]; exact h)]; simp⟩
theorem mapTo_next (H : MapTo f xs ys k) (h : k < xs.length) {y : α} (hy : y = f xs[k]) : MapTo f xs (ys.set k y) (k + 1) := by
  refine ⟨by rw [List.length_set]; exact H.1, fun i hi hi' => ?_⟩
  rw [List.getElem_set]
  by_cases e : k = i
  · subst e
    rw [if_pos rfl, if_pos (by omega), hy]
  · rw [if_neg e, H.2 i hi (by rw [H.1]; exact hi)]
    by_cases h2 : i < k
    · rw [if_pos h2, if_pos (by omega)]
    · rw [if_neg h2, if_neg (by omega)]
theorem mapTo_skip (H : MapTo f xs ys k) (h : k < xs.length) (hy : f xs[k] = xs[k]) : MapTo f xs ys (k + 1) := by
  refine ⟨H.1, fun i hi hi' => ?_⟩
  rw [H.2 i hi hi']
  by_cases e : i = k
  · subst e
    rw [if_neg (by omega), if_pos (by omega), hy]
  · by_cases h2 : i < k
    · rw [if_pos h2, if_pos (by omega)]
    · rw [if_neg h2, if_neg (by omega)]
theorem mapTo_end (H : MapTo f xs ys k) (h : ¬ k < xs.length) : ys = xs.map f := by
  refine List.ext_getElem (by rw [List.length_map]; exact H.1) fun i h1 h2 => ?_
  rw [H.2 i (by rw [H.1] at h1; exact h1) h1, List.getElem_map, if_pos (by rw [H.1] at h1; omega)]
end
theorem lineM_no {path dst s : ByteArray} (h : hitB path s = false) : lineM path dst s = s := by unfold lineM; rw [h]; rfl
theorem lineM_yes {path dst s : ByteArray} (h : hitB path s = true) : lineM path dst s = seeT ++ dst := by unfold lineM; rw [h]; rfl
theorem ruleMove_bad {t : List File} {path dst : ByteArray} (h : treeB t = false) : ruleMove t path dst = [] := if_neg (by rw [h]; simp)
theorem ruleMoveB_bad {t : List File} {path dst : ByteArray} (h : treeB t = false) : ruleMoveB t path dst = false := by unfold ruleMoveB; rw [h]; rfl
theorem ruleMove_ok {t : List File} {path dst : ByteArray} (h : treeB t = true) : ruleMove t path dst = if ruleMoveB t path dst = true then treeM path dst (movedT t path dst) else t := if_pos h
theorem ruleMoveB_none {t : List File} {path dst : ByteArray} (h : getT t path = none) : ruleMoveB t path dst = false := by unfold ruleMoveB; rw [h]; simp
theorem ruleMoveB_not {t : List File} {path dst : ByteArray} (h : moveB t path dst = false) : ruleMoveB t path dst = false := by unfold ruleMoveB; rw [h]; simp
theorem ruleMoveB_is {t : List File} {path dst : ByteArray} {x : List ByteArray} (h1 : treeB t = true) (h2 : getT t path = some x) (h3 : moveB t path dst = true) : ruleMoveB t path dst = treeB (treeM path dst (movedT t path dst)) := by unfold ruleMoveB; rw [h1, h2, h3]; simp
theorem movG_mem' {path dst : ByteArray} {g : File} : ∀ {r b : List File}, g ∈ movG path dst b r → g ∈ b ∨ ∃ f, f ∈ r ∧ isAtB path f.path = true ∧ g = mvF path dst f
  | [], b, h => .inl h
  | f :: r, b, h => by
    rw [movG] at h
    rcases movG_mem' h with h | ⟨f', h1, h2, h3⟩
    · split at h
      · rename_i hp
        rcases setG_mem h with rfl | h
        · exact .inr ⟨f, List.mem_cons_self .., hp, rfl⟩
        · exact .inl h
      · exact .inl h
    · exact .inr ⟨f', List.mem_cons_of_mem _ h1, h2, h3⟩
theorem move_law' {t x : List File} {q d : ByteArray} (hT : treeB t = true) (hb : moveB t q d = true) (hx : treeMove t q d = x) :
    treeB x = true ∧ ∀ f, f ∈ x → ∃ g, g ∈ t ∧ f.path.size ≤ d.size + g.path.size := by
  have hb0 := hb
  unfold moveB at hb0
  simp only [Bool.and_eq_true, decide_eq_true_eq] at hb0
  obtain ⟨_, _, _, hTm, _⟩ := hb0
  have ex : x = movedT t q d := by rw [← hx, move_ok hT, if_pos hb]
  subst ex
  refine ⟨hTm, fun f hf => ?_⟩
  rcases movG_mem' hf with h | ⟨g, hg, hp, rfl⟩
  · exact ⟨f, (List.mem_filter.1 h).1, by omega⟩
  · refine ⟨g, hg, ?_⟩
    show (mvP q d g.path).size ≤ _
    rw [mvP_size (isAt_size hp)]
    omega
end Go.Vc
