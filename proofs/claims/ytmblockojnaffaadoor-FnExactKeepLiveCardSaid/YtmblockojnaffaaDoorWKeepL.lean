/-
  Walks: commits from which a branch comes: the two functions.
-/
import Derived.Test.YtmblockojnaffaaDoorWLiveS
import Derived.Test.YtmblockojnaffaaDoorWRepo
set_option linter.unusedVariables false
namespace Go.Proofs.YtmblockojnaffaaDoor
open Go.RowKit Go.Vc
open Go.Vc.Rep (rd)
open Go.Vc.Own (own)

set_option maxHeartbeats 4000000 in
set_option maxRecDepth 100000 in
theorem implKeepLive {S T : Nat → Prop} (r : Repo) (v0 v1 : Value) (w : World) (h0 : rd S w [v0] r.commits) (h1 : rd T w [v1] r.heads) (hS : shortR r) (hM : ML w) :
    Calls Tryd.prog 24 #[.agg #[v0, v1]] w fun e w' => ∃ v', e = .returned v' ∧ Fresh w.heap.size w'.heap.size w' [v'] (keepLive r) ∧ Below w.heap.size w w' := by
  have h0 := Rep.lt h0
  have h1 := Rep.lt h1
  have hB0 : Below w.heap.size w (w.alloc (.cells #[v0, v1] 32)) := ((Below.refl _ _).alloc (by simp <;> omega) _)
  have q0 : (w.alloc (.cells #[v0, v1] 32)).cell? ⟨w.heap.size, 0, none⟩ = some v0 := by rw [cell_of_row _ _ 0 _ _ (0, 0) (heap_alloc_new _ _)]; rfl
  have q1 : (w.alloc (.cells #[v0, v1] 32)).cell? ⟨w.heap.size, 1, none⟩ = some v1 := by rw [cell_of_row _ _ 1 _ _ (0, 0) (heap_alloc_new _ _)]; rfl
  have HR : Hid (keepLive r = if repoB r = true then liveT r else []) := rfl
  cases hr : repoB r with
  | false =>
    rw [hr] at HR
    go_enter Tryd.func24, Tryd.ntmps24
    go_wp2_with fail
    refine (repoOk_is _ _ r _ (Rep.keep h0 hB0) (Rep.keep h1 hB0) hS (hM.keep hB0) hr).mono ?_
    rintro e w1 ⟨rfl, hb1⟩
    go_wp2
    go_ret
    exact ⟨_, rfl, by rw [HR.out]; exact Fresh.nil _ _ _ (by decide), hB0.trans (hb1.mono hB0.size)⟩
  | true =>
    rw [hr] at HR
    have HRB := Lib.hid hr
    have hfew := repo_le hr
    go_enter Tryd.func24, Tryd.ntmps24
    go_wp2_with fail
    refine (repoOk_is _ _ r _ (Rep.keep h0 hB0) (Rep.keep h1 hB0) hS (hM.keep hB0) hr).mono ?_
    rintro e w1 ⟨rfl, hb1⟩
    clear hr
    have q0 := keepc q0 hb1
    have q1 := keepc q1 hb1
    have HB := hB0.trans (hb1.mono hB0.size)
    go_wp2_with fail
    refine (live_any _ _ r _ (Rep.keep h0 HB) (Rep.keep h1 HB) HRB.out).mono ?_
    rintro e w2 ⟨v2, rfl, hF2, hb2⟩
    have HB := HB.trans (hb2.mono HB.size)
    have hlb := liveB_len r
    go_wp2_with fail
    refine (listOf_any _ _ _ hF2.rd (by omega)).mono ?_
    rintro e w3 ⟨v3, rfl, hF3, hb3⟩
    go_wp2
    go_ret
    exact ⟨_, rfl, by rw [HR.out]; exact hF3.mono HB.size (Nat.le_refl _), HB.trans (hb3.mono HB.size)⟩

set_option maxHeartbeats 4000000 in
set_option maxRecDepth 100000 in
theorem specKeepLive {S T : Nat → Prop} (r : Repo) (v0 v1 : Value) (w : World) (h0 : rd S w [v0] r.commits) (h1 : rd T w [v1] r.heads) (hS : shortR r) (hM : ML w) :
    Calls Tryd.prog 23 #[.agg #[v0, v1]] w fun e w' => ∃ v', e = .returned v' ∧ Fresh w.heap.size w'.heap.size w' [v'] (keepLive r) ∧ Below w.heap.size w w' := by
  have h0 := Rep.lt h0
  have h1 := Rep.lt h1
  have hB0 : Below w.heap.size w (w.alloc (.cells #[v0, v1] 32)) := ((Below.refl _ _).alloc (by simp <;> omega) _)
  have q0 : (w.alloc (.cells #[v0, v1] 32)).cell? ⟨w.heap.size, 0, none⟩ = some v0 := by rw [cell_of_row _ _ 0 _ _ (0, 0) (heap_alloc_new _ _)]; rfl
  have q1 : (w.alloc (.cells #[v0, v1] 32)).cell? ⟨w.heap.size, 1, none⟩ = some v1 := by rw [cell_of_row _ _ 1 _ _ (0, 0) (heap_alloc_new _ _)]; rfl
  have HR : Hid (keepLive r = if repoB r = true then liveT r else []) := rfl
  cases hr : repoB r with
  | false =>
    rw [hr] at HR
    go_enter Tryd.func23, Tryd.ntmps23
    go_wp2_with fail
    refine (l7Ok_is _ _ r _ (Rep.keep h0 hB0) (Rep.keep h1 hB0) hr).mono ?_
    rintro e w1 ⟨rfl, hb1⟩
    go_wp2
    go_ret
    exact ⟨_, rfl, by rw [HR.out]; exact Fresh.nil _ _ _ (by decide), hB0.trans (hb1.mono hB0.size)⟩
  | true =>
    rw [hr] at HR
    have HRB := Lib.hid hr
    go_enter Tryd.func23, Tryd.ntmps23
    go_wp2_with fail
    refine (l7Ok_is _ _ r _ (Rep.keep h0 hB0) (Rep.keep h1 hB0) hr).mono ?_
    rintro e w1 ⟨rfl, hb1⟩
    clear hr
    have q0 := keepc q0 hb1
    have q1 := keepc q1 hb1
    have HB := hB0.trans (hb1.mono hB0.size)
    go_wp2_with fail
    refine (l14Live_any _ _ r _ (Rep.keep h0 HB) (Rep.keep h1 HB) HRB.out).mono ?_
    rintro e w2 ⟨v2, rfl, hF2, hb2⟩
    go_wp2
    go_ret
    exact ⟨_, rfl, by rw [HR.out]; exact hF2.mono HB.size (Nat.le_refl _), HB.trans (hb2.mono HB.size)⟩
end Go.Proofs.YtmblockojnaffaaDoor
