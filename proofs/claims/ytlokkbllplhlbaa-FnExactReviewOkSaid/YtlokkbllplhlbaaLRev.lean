/-
  The walk of the law 'FnExactReviewOk'.
-/
import Derived.Test.YtlokkbllplhlbaaWR3
import Derived.Test.YtlokkbllplhlbaaReview1
import Derived.Test.YtlokkbllplhlbaaGen3
import Derived.Deep.RegionHeld3
set_option linter.unusedVariables false
namespace Go.Proofs.Ytlokkbllplhlbaa
open Go.RowKit Go.Vc
open Go.Vc.Rep (rd)
open Go.Vc.Own (own)

/-- a boxed review's cells -/
def RevAt (w : World) (b : Nat) (x : Review) (v : Value) : Prop :=
  w.cell? ⟨b, 0, none⟩ = some (.string x.branch) ∧ w.cell? ⟨b, 1, none⟩ = some (.string x.into) ∧ w.cell? ⟨b, 2, none⟩ = some (.string x.by_) ∧ w.cell? ⟨b, 3, none⟩ = some v
theorem RevAt.keep {w w' : World} {b : Nat} {x : Review} {v : Value} (h : RevAt w b x v) (hb : Below w.heap.size w w') : RevAt w' b x v := ⟨keepc h.1 hb, keepc h.2.1 hb, keepc h.2.2.1 hb, keepc h.2.2.2 hb⟩
theorem RevAt.new (w : World) (x : Review) (v : Value) (t : TypeId) : RevAt (w.alloc (.cells #[.string x.branch, .string x.into, .string x.by_, v] t)) w.heap.size x v := by
  have h := heap_alloc_new w (.cells #[.string x.branch, .string x.into, .string x.by_, v] t)
  refine ⟨?_, ?_, ?_, ?_⟩
  · rw [cell_of_row _ _ 0 _ _ (0, 0) h]; rfl
  · rw [cell_of_row _ _ 1 _ _ (0, 0) h]; rfl
  · rw [cell_of_row _ _ 2 _ _ (0, 0) h]; rfl
  · rw [cell_of_row _ _ 3 _ _ (0, 0) h]; rfl

set_option maxHeartbeats 4000000 in
set_option maxRecDepth 100000 in
theorem lawReviewOk (x : Review) (v3 : Value) (w : World) (h0 : x.branch.size ≤ maxLen) (h1 : x.into.size ≤ maxLen) (h2 : x.by_.size ≤ maxLen) (hv : rd (fun b => b < w.heap.size) w [v3] x.yes) :
    Calls Try.prog 3 #[.agg #[.string x.branch, .string x.into, .string x.by_, v3]] w fun e w' => e = .returned (.bool true) ∧ Below w.heap.size w w' := by
  have HB : Below w.heap.size w (w.alloc (.cells #[.string x.branch, .string x.into, .string x.by_, v3] 24)) := ((Below.refl _ _).alloc (by simp <;> omega) _)
  have hv := Rep.keep hv HB
  have q := RevAt.new w x v3 24
  go_enter Try.func3, Try.ntmps3
  go_wp2_with fail
  refine (sz1_review x v3 1048576 _ h0 h1 h2 hv (by decide) (by decide)).mono ?_
  rintro e w1 ⟨rfl, hb1⟩
  have hv := Rep.below hv (Nat.le_refl _) hb1
  have q := q.keep hb1
  have HB := HB.trans (hb1.mono HB.size)
  by_cases hn : sub 1048576 (bulk1_review x) < 0
  · go_wp2
    go_ret
    exact ⟨rfl, HB⟩
  · obtain ⟨hq1, hq2, hq3⟩ := sub_facts (by decide) hn
    have hl : bulk_S x.yes ≤ 1048576 := by have e : bulk1_review x = x.branch.size + x.into.size + x.by_.size + bulk_S x.yes := rfl; omega
    clear hq1 hq3
    obtain ⟨p0, p1, p2, p3⟩ := q
    go_wp2_with fail
    refine (to1_review x v3 _ hv hl).mono ?_
    rintro e w2 ⟨a2, c2, rfl, hA, hb2⟩
    have hv := Rep.below hv (Nat.le_refl _) hb2
    have q := RevAt.keep ⟨p0, p1, p2, p3⟩ hb2
    have HB := HB.trans (hb2.mono HB.size)
    clear p0 p1 p2 p3
    go_wp2_with fail
    refine (specReviewOk x _ _ h0 h1 h2 hA.rd).mono ?_
    rintro e w3 ⟨rfl, hb3⟩
    have hv := Rep.below hv (Nat.le_refl _) hb3
    have q := q.keep hb3
    have HB := HB.trans (hb3.mono HB.size)
    clear hA
    obtain ⟨p0, p1, p2, p3⟩ := q
    go_wp2_with fail
    refine (to1_review x v3 _ hv hl).mono ?_
    rintro e w4 ⟨a4, c4, rfl, hX, hb4⟩
    have hv := Rep.below hv (Nat.le_refl _) hb4
    have q := RevAt.keep ⟨p0, p1, p2, p3⟩ hb4
    have HB := HB.trans (hb4.mono HB.size)
    clear p0 p1 p2 p3
    have hb4' := (Below.refl w4.heap.size w4).alloc (Nat.le_refl _) (.cells #[.string x.branch, .string x.into, .string x.by_, .slice a4 x.yes.length c4] 27)
    have r := RevAt.new w4 x (.slice a4 x.yes.length c4) 27
    have hv := Rep.below hv (Nat.le_refl _) hb4'
    have hX := hX.below (Nat.le_refl _) hb4'
    have q := q.keep hb4'
    have HB := HB.trans (hb4'.mono HB.size)
    go_wp2_with fail
    refine (implReviewOk x _ _ h0 h1 h2 hX.rd).mono ?_
    rintro e w5 ⟨rfl, hb5⟩
    have hv := Rep.below hv (Nat.le_refl _) hb5
    have hX := hX.below (Nat.le_refl _) hb5
    have q := q.keep hb5
    have r := r.keep hb5
    have HB := HB.trans (hb5.mono HB.size)
    have hbb : (reviewB x != reviewB x) = false := by simp
    have hee : decide (x = x) = true := decide_eq_true rfl
    obtain ⟨p0, p1, p2, p3⟩ := q
    obtain ⟨r0, r1, r2, r3⟩ := r
    go_wp2
    go_region_held3 (fun w' => (w'.cell? ⟨w.heap.size, 0, none⟩ = some (.string x.branch) ∧ w'.cell? ⟨w.heap.size, 1, none⟩ = some (.string x.into) ∧ w'.cell? ⟨w.heap.size, 2, none⟩ = some (.string x.by_) ∧ w'.cell? ⟨w.heap.size, 3, none⟩ = some v3) ∧
        w'.cell? ⟨w4.heap.size, 0, none⟩ = some (.string x.branch) ∧ w'.cell? ⟨w4.heap.size, 1, none⟩ = some (.string x.into) ∧ w'.cell? ⟨w4.heap.size, 2, none⟩ = some (.string x.by_) ∧ w'.cell? ⟨w4.heap.size, 3, none⟩ = some (.slice a4 x.yes.length c4))
      (first | go_keep | exact ⟨K7, L7⟩ | exact ⟨K6, L6⟩)
      (first
        | (go_at_call 11; refine (to1_review x v3 _ (Rep.drew hv) hl).mono ?_; rintro e w6 ⟨a6, c6, rfl, hY, hb6⟩; have K6 := RevAt.keep (w := w5.drew) (b := w.heap.size) (x := x) (v := v3) ⟨p0, p1, p2, p3⟩ hb6; have L6 := RevAt.keep (w := w5.drew) (b := w4.heap.size) (x := x) (v := .slice a4 x.yes.length c4) ⟨r0, r1, r2, r3⟩ hb6)
        | (go_at_call 13; refine (eq1_review x x _ _ _ (hX.drew.below (Nat.le_refl _) hb6).rd hY.rd).mono ?_; rintro e w7 ⟨rfl, hb7⟩; have K7 := K6.keep hb7; have L7 := L6.keep hb7))
    all_goals
      go_wp2
      go_ret
      exact ⟨rfl, (HB.drew.trans (hb6.mono HB.size)).trans (hb7.mono (by have := HB.size; have := hb6.size; simp at *; omega))⟩
end Go.Proofs.Ytlokkbllplhlbaa
