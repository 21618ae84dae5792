/-
  Walks: what is sent, and what is left.
-/
import Derived.Test.YtmblockojnaffaaDoorVM
import Derived.Test.YtmblockojnaffaaDoorWAnc2
set_option linter.unusedVariables false
namespace Go.Proofs.YtmblockojnaffaaDoor
open Go.RowKit Go.Vc
open Go.Vc.Rep (rd)
open Go.Vc.Own (own)

set_option maxHeartbeats 4000000 in
set_option maxRecDepth 100000 in
theorem l12Any_is {S T : Nat → Prop} (v0 v1 u : Value) (cs : List Commit) (xs : List Int) (w : World) (h0 : rd S w [v0] cs) (hu : rd T w [u] xs) (hn : cs.length ≤ 16) {b : Bool} (h : (anyB cs.length xs && decide (xs.length ≤ 16)) = b) :
    Calls Tryd.prog 54 #[.agg #[v0, v1], u] w fun e w' => e = .returned (.bool b) ∧ Below w.heap.size w w' := by
  obtain ⟨a, cap, rfl, hs⟩ := rd_slice_elim (Rep.lt h0)
  obtain ⟨a2, c2, rfl, ht⟩ := rd_slice_elim (Rep.lt hu)
  have hle := ht.le
  obtain ⟨wb, hwb⟩ : ∃ wb, wb = w.alloc (.cells #[.slice a cs.length cap, v1] 32) := ⟨_, rfl⟩
  obtain ⟨hB0, hsb, hq⟩ := boxed (vs := [.slice a cs.length cap, v1]) hwb
  have q0 := hq 0 _ rfl
  have HW := Lib.hid hwb
  clear hwb hq
  go_enter Tryd.func54, Tryd.ntmps54
  go_wp2
  rw [← HW.out]
  go_loopw [5] (fun i wr => (∃ k : Nat, k ≤ xs.length ∧ i = .int .i64 k ∧ Hid (anyB cs.length xs = anyB cs.length (xs.drop k))) ∧ Below wb.heap.size wb wr) (fun i _ => xs.length - (intOf i).toNat)
  case atStart => exact ⟨⟨0, by omega, rfl, rfl⟩, Below.refl _ _⟩
  case round =>
    obtain ⟨⟨k, hk, rfl, HA⟩, hb⟩ := hrel
    have hbz := hB0.trans (hb.mono hB0.size)
    by_cases hlt : k < xs.length
    · obtain ⟨g, off, ha2, hc, _⟩ := (ht.keep hbz).int hlt
      subst ha2
      have hc := BW.cell hc
      have r0 := BW.cell (keepc q0 hb)
      cases hw : withinB xs[k] 0 ((cs.length : Int) - 1) with
      | false =>
        have HN := Lib.hid (show anyB cs.length xs = false from all_bad HA.out hlt hw)
        go_wp2
        refine wp_region_bw (by kernel_rfl) (by kernel_rfl) ?_
        repeat (go_big_quiet_step ((go_at_call 55; exact Calls.bw_same (l1In_is _ _ _ _ hw))))
        refine wpQuiet_nil ?_
        rintro w1 ⟨⟨_, hbw⟩, rfl⟩
        go_wp2
        go_ret
        exact ⟨ret_bool (by rw [← h, HN.out, Bool.false_and]), hbz.trans (hbw.mono hbz.size)⟩
      | true =>
        have HN := Lib.hid (show anyB cs.length xs = anyB cs.length (xs.drop (k + 1)) from all_next HA.out hlt hw)
        go_wp2
        refine wp_region_bw (by kernel_rfl) (by kernel_rfl) ?_
        repeat (go_big_quiet_step ((go_at_call 55; exact Calls.bw_same (l1In_is _ _ _ _ hw))))
        refine wpQuiet_nil ?_
        rintro w1 ⟨⟨_, hbw⟩, rfl⟩
        go_wp2
        go_roundw
        case rel => exact ⟨⟨k + 1, by omega, by go_num, HN.out⟩, hb.trans (hbw.mono hb.size)⟩
        case measure => simp [intOf] <;> omega
    · have HN := Lib.hid (show anyB cs.length xs = true from all_end HA.out hlt)
      by_cases h16 : xs.length ≤ 16
      · have d16 : decide ((xs.length : Int) ≤ 16) = true := decide_eq_true (by omega)
        have e16 := Lib.hid h16
        clear h16
        go_wp2
        go_ret
        exact ⟨ret_bool (by rw [← h, HN.out, decide_eq_true e16.out]; rfl), hbz⟩
      · have d16 : decide ((xs.length : Int) ≤ 16) = false := decide_eq_false (by omega)
        have e16 := Lib.hid h16
        clear h16
        go_wp2
        go_ret
        exact ⟨ret_bool (by rw [← h, HN.out, decide_eq_false e16.out]; rfl), hbz⟩

set_option maxRecDepth 100000 in
theorem l15New_any {S T : Nat → Prop} (v0 v1 u : Value) (cs : List Commit) (xs : List Int) (at_ : Int) (w : World) (h0 : rd S w [v0] cs) (hu : rd T w [u] xs) (hP : parOk cs) (hn : cs.length ≤ 16) (hat : 0 ≤ at_ ∧ at_ < (cs.length : Int)) (hx : anyB cs.length xs = true) (hl : xs.length ≤ 1000) :
    Calls Tryd.prog 56 #[.agg #[v0, v1], u, .int .i64 at_] w fun e w' => ∃ v', e = .returned v' ∧ Fresh w.heap.size w'.heap.size w' [v'] (leftT cs at_ xs) ∧ Below w.heap.size w w' := by
  have h0 := Rep.lt h0
  have hu := Rep.lt hu
  have hB0 : Below w.heap.size w (w.alloc (.cells #[v0, v1] 32)) := ((Below.refl _ _).alloc (by simp <;> omega) _)
  go_enter Tryd.func56, Tryd.ntmps56
  go_wp2_with fail
  refine (l12Left_any _ _ _ cs xs at_ _ (Rep.keep h0 hB0) (Rep.keep hu hB0) hP hn hat hx hl).mono ?_
  rintro e w1 ⟨v, rfl, hF, hb⟩
  go_wp2
  go_ret
  exact ⟨_, rfl, hF.mono (by simp) (Nat.le_refl _), hB0.trans (hb.mono hB0.size)⟩

def sendN (r : Repo) (xs : List Int) (at_ : Int) : Int := if suspB r xs at_ = true then ((leftT r.commits at_ xs).length : Int) else -1
def logLeft (r : Repo) (xs : List Int) (at_ : Int) : List Int := if suspB r xs at_ = true then leftT r.commits at_ xs else []
theorem logLeft_len (r : Repo) (xs : List Int) (at_ : Int) : (logLeft r xs at_).length ≤ 16 := by
  unfold logLeft
  split
  · rename_i h
    have := repo_le (susp_parts h).1
    exact Nat.le_trans (left_len _ _ _) this
  · simp

set_option maxHeartbeats 4000000 in
set_option maxRecDepth 100000 in
theorem implSendMany {S T U : Nat → Prop} (r : Repo) (v0 v1 u : Value) (xs : List Int) (at_ : Int) (w : World) (h0 : rd S w [v0] r.commits) (h1 : rd T w [v1] r.heads) (hu : rd U w [u] xs) (hS : shortR r) (hM : ML w) :
    Calls Tryd.prog 18 #[.agg #[v0, v1], u, .int .i64 at_] w fun e w' => e = .returned (.int .i64 (sendN r xs at_)) ∧ Below w.heap.size w w' := by
  have h0 := Rep.lt h0
  have h1 := Rep.lt h1
  have hu := Rep.lt hu
  have hB0 : Below w.heap.size w (w.alloc (.cells #[v0, v1] 32)) := ((Below.refl _ _).alloc (by simp <;> omega) _)
  have q0 : (w.alloc (.cells #[v0, v1] 32)).cell? ⟨w.heap.size, 0, none⟩ = some v0 := by rw [cell_of_row _ _ 0 _ _ (0, 0) (heap_alloc_new _ _)]; rfl
  have q1 : (w.alloc (.cells #[v0, v1] 32)).cell? ⟨w.heap.size, 1, none⟩ = some v1 := by rw [cell_of_row _ _ 1 _ _ (0, 0) (heap_alloc_new _ _)]; rfl
  have HR : Hid (sendN r xs at_ = if suspB r xs at_ = true then ((leftT r.commits at_ xs).length : Int) else -1) := rfl
  cases hq : suspB r xs at_ with
  | false =>
    rw [hq] at HR
    go_enter Tryd.func18, Tryd.ntmps18
    go_wp2_with fail
    refine (areSuspect_is _ _ _ r xs at_ _ (Rep.keep h0 hB0) (Rep.keep h1 hB0) (Rep.keep hu hB0) hS (hM.keep hB0) hq).mono ?_
    rintro e w1 ⟨rfl, hb1⟩
    go_wp2
    go_ret
    exact ⟨ret_int HR.out.symm, hB0.trans (hb1.mono hB0.size)⟩
  | true =>
    rw [hq] at HR
    have HP := Lib.hid (susp_parts hq)
    go_enter Tryd.func18, Tryd.ntmps18
    go_wp2_with fail
    refine (areSuspect_is _ _ _ r xs at_ _ (Rep.keep h0 hB0) (Rep.keep h1 hB0) (Rep.keep hu hB0) hS (hM.keep hB0) hq).mono ?_
    rintro e w1 ⟨rfl, hb1⟩
    have q0 := keepc q0 hb1
    have q1 := keepc q1 hb1
    have HB := hB0.trans (hb1.mono hB0.size)
    obtain ⟨hp1, hp2, hp3, hp4, hp5⟩ := HP.out
    go_wp2_with fail
    refine (since_any _ _ _ r.commits at_ xs _ (Rep.keep h0 HB) (Rep.keep hu HB) (repo_par hp1) (repo_le hp1) ⟨hp4, hp5⟩ hp2).mono ?_
    rintro e w2 ⟨v, rfl, hF, hb2⟩
    obtain ⟨a5, c5, rfl, _⟩ := hF.shape
    rw [since_left]
    go_wp2
    go_ret
    exact ⟨ret_int HR.out.symm, HB.trans (hb2.mono HB.size)⟩

set_option maxHeartbeats 4000000 in
set_option maxRecDepth 100000 in
theorem implLogLeft {S T U : Nat → Prop} (r : Repo) (v0 v1 u : Value) (xs : List Int) (at_ : Int) (w : World) (h0 : rd S w [v0] r.commits) (h1 : rd T w [v1] r.heads) (hu : rd U w [u] xs) (hS : shortR r) (hM : ML w) :
    Calls Tryd.prog 36 #[.agg #[v0, v1], u, .int .i64 at_] w fun e w' => ∃ v', e = .returned v' ∧ Fresh w.heap.size w'.heap.size w' [v'] (logLeft r xs at_) ∧ Below w.heap.size w w' := by
  have h0 := Rep.lt h0
  have h1 := Rep.lt h1
  have hu := Rep.lt hu
  have hB0 : Below w.heap.size w (w.alloc (.cells #[v0, v1] 32)) := ((Below.refl _ _).alloc (by simp <;> omega) _)
  have q0 : (w.alloc (.cells #[v0, v1] 32)).cell? ⟨w.heap.size, 0, none⟩ = some v0 := by rw [cell_of_row _ _ 0 _ _ (0, 0) (heap_alloc_new _ _)]; rfl
  have q1 : (w.alloc (.cells #[v0, v1] 32)).cell? ⟨w.heap.size, 1, none⟩ = some v1 := by rw [cell_of_row _ _ 1 _ _ (0, 0) (heap_alloc_new _ _)]; rfl
  have HR : Hid (logLeft r xs at_ = if suspB r xs at_ = true then leftT r.commits at_ xs else []) := rfl
  cases hq : suspB r xs at_ with
  | false =>
    rw [hq] at HR
    go_enter Tryd.func36, Tryd.ntmps36
    go_wp2_with fail
    refine (areSuspect_is _ _ _ r xs at_ _ (Rep.keep h0 hB0) (Rep.keep h1 hB0) (Rep.keep hu hB0) hS (hM.keep hB0) hq).mono ?_
    rintro e w1 ⟨rfl, hb1⟩
    go_wp2
    go_ret
    exact ⟨_, rfl, by rw [HR.out]; exact Fresh.nil _ _ _ (by decide), hB0.trans (hb1.mono hB0.size)⟩
  | true =>
    rw [hq] at HR
    have HP := Lib.hid (susp_parts hq)
    go_enter Tryd.func36, Tryd.ntmps36
    go_wp2_with fail
    refine (areSuspect_is _ _ _ r xs at_ _ (Rep.keep h0 hB0) (Rep.keep h1 hB0) (Rep.keep hu hB0) hS (hM.keep hB0) hq).mono ?_
    rintro e w1 ⟨rfl, hb1⟩
    have q0 := keepc q0 hb1
    have q1 := keepc q1 hb1
    have HB := hB0.trans (hb1.mono hB0.size)
    obtain ⟨hp1, hp2, hp3, hp4, hp5⟩ := HP.out
    go_wp2_with fail
    refine (since_any _ _ _ r.commits at_ xs _ (Rep.keep h0 HB) (Rep.keep hu HB) (repo_par hp1) (repo_le hp1) ⟨hp4, hp5⟩ hp2).mono ?_
    rintro e w2 ⟨v, rfl, hF, hb2⟩
    rw [since_left] at hF
    go_wp2
    go_ret
    exact ⟨_, rfl, by rw [HR.out]; exact hF.mono HB.size (Nat.le_refl _), HB.trans (hb2.mono HB.size)⟩

set_option maxHeartbeats 4000000 in
set_option maxRecDepth 100000 in
theorem specSendMany {S T U : Nat → Prop} (r : Repo) (v0 v1 u : Value) (xs : List Int) (at_ : Int) (w : World) (h0 : rd S w [v0] r.commits) (h1 : rd T w [v1] r.heads) (hu : rd U w [u] xs) (hS : shortR r) (hM : ML w) :
    Calls Tryd.prog 15 #[.agg #[v0, v1], u, .int .i64 at_] w fun e w' => e = .returned (.int .i64 (sendN r xs at_)) ∧ Below w.heap.size w w' := by
  have h0 := Rep.lt h0
  have h1 := Rep.lt h1
  have hu := Rep.lt hu
  obtain ⟨a, cap, rfl, hs⟩ := rd_slice_elim h0
  have hle := hs.le
  have hB0 : Below w.heap.size w (w.alloc (.cells #[.slice a r.commits.length cap, v1] 32)) := ((Below.refl _ _).alloc (by simp <;> omega) _)
  have q0 : (w.alloc (.cells #[.slice a r.commits.length cap, v1] 32)).cell? ⟨w.heap.size, 0, none⟩ = some (.slice a r.commits.length cap) := by rw [cell_of_row _ _ 0 _ _ (0, 0) (heap_alloc_new _ _)]; rfl
  have q1 : (w.alloc (.cells #[.slice a r.commits.length cap, v1] 32)).cell? ⟨w.heap.size, 1, none⟩ = some v1 := by rw [cell_of_row _ _ 1 _ _ (0, 0) (heap_alloc_new _ _)]; rfl
  have HR : Hid (sendN r xs at_ = if suspB r xs at_ = true then ((leftT r.commits at_ xs).length : Int) else -1) := rfl
  have HS : Hid (suspB r xs at_ = (repoB r && (anyB r.commits.length xs && decide (xs.length ≤ 16)) && withinB at_ 0 ((r.commits.length : Int) - 1))) := by show _ = _; unfold suspB; simp only [Bool.and_assoc]
  cases hr : repoB r with
  | false =>
    rw [hr] at HS
    go_enter Tryd.func15, Tryd.ntmps15
    go_wp2_with fail
    refine (l7Ok_is _ _ r _ (Rep.keep h0 hB0) (Rep.keep h1 hB0) hr).mono ?_
    rintro e w1 ⟨rfl, hb1⟩
    go_wp2
    go_ret
    exact ⟨ret_int (by rw [HR.out, HS.out]; rfl), hB0.trans (hb1.mono hB0.size)⟩
  | true =>
    rw [hr] at HS
    have HPR := Lib.hid hr
    have hfew := repo_le hr
    go_enter Tryd.func15, Tryd.ntmps15
    go_wp2_with fail
    refine (l7Ok_is _ _ r _ (Rep.keep h0 hB0) (Rep.keep h1 hB0) hr).mono ?_
    rintro e w1 ⟨rfl, hb1⟩
    clear hr
    have q0 := keepc q0 hb1
    have q1 := keepc q1 hb1
    have HB := hB0.trans (hb1.mono hB0.size)
    cases hy : (anyB r.commits.length xs && decide (xs.length ≤ 16)) with
    | false =>
      rw [hy] at HS
      go_wp2_with fail
      refine (l12Any_is _ _ _ r.commits xs _ (Rep.keep h0 HB) (Rep.keep hu HB) hfew hy).mono ?_
      rintro e w2 ⟨rfl, hb2⟩
      go_wp2
      go_ret
      exact ⟨ret_int (by rw [HR.out, HS.out]; rfl), HB.trans (hb2.mono HB.size)⟩
    | true =>
      rw [hy] at HS
      have HPY := Lib.hid hy
      go_wp2_with fail
      refine (l12Any_is _ _ _ r.commits xs _ (Rep.keep h0 HB) (Rep.keep hu HB) hfew hy).mono ?_
      rintro e w2 ⟨rfl, hb2⟩
      clear hy
      have q0 := keepc q0 hb2
      have q1 := keepc q1 hb2
      have HB := HB.trans (hb2.mono HB.size)
      cases hw : withinB at_ 0 ((r.commits.length : Int) - 1) with
      | false =>
        rw [hw] at HS
        go_wp2_with (go_at_call 55; with_reducible refine (l1In_is _ _ _ _ hw).mono ?_; rintro e w3 ⟨rfl, rfl⟩)
        go_ret
        exact ⟨ret_int (by rw [HR.out, HS.out]; rfl), HB⟩
      | true =>
        rw [hw] at HS
        have HSU : Hid (suspB r xs at_ = true) := HS
        go_wp2_with (go_at_call 55; with_reducible refine (l1In_is _ _ _ _ hw).mono ?_; rintro e w3 ⟨rfl, rfl⟩)
        obtain ⟨hp1, hp2, hp3, hp4, hp5⟩ := susp_parts HSU.out
        refine (l15New_any _ _ _ r.commits xs at_ _ (Rep.keep h0 HB) (Rep.keep hu HB) (repo_par hp1) hfew ⟨hp4, hp5⟩ hp2 (by omega)).mono ?_
        rintro e w4 ⟨v, rfl, hF, hb4⟩
        obtain ⟨a5, c5, rfl, _⟩ := hF.shape
        go_wp2
        go_ret
        exact ⟨ret_int (by rw [HR.out, HSU.out]; rfl), HB.trans (hb4.mono HB.size)⟩

set_option maxHeartbeats 4000000 in
set_option maxRecDepth 100000 in
theorem specLogLeft {S T U : Nat → Prop} (r : Repo) (v0 v1 u : Value) (xs : List Int) (at_ : Int) (w : World) (h0 : rd S w [v0] r.commits) (h1 : rd T w [v1] r.heads) (hu : rd U w [u] xs) (hS : shortR r) (hM : ML w) :
    Calls Tryd.prog 35 #[.agg #[v0, v1], u, .int .i64 at_] w fun e w' => ∃ v', e = .returned v' ∧ Fresh w.heap.size w'.heap.size w' [v'] (logLeft r xs at_) ∧ Below w.heap.size w w' := by
  have h0 := Rep.lt h0
  have h1 := Rep.lt h1
  have hu := Rep.lt hu
  obtain ⟨a, cap, rfl, hs⟩ := rd_slice_elim h0
  have hle := hs.le
  have hB0 : Below w.heap.size w (w.alloc (.cells #[.slice a r.commits.length cap, v1] 32)) := ((Below.refl _ _).alloc (by simp <;> omega) _)
  have q0 : (w.alloc (.cells #[.slice a r.commits.length cap, v1] 32)).cell? ⟨w.heap.size, 0, none⟩ = some (.slice a r.commits.length cap) := by rw [cell_of_row _ _ 0 _ _ (0, 0) (heap_alloc_new _ _)]; rfl
  have q1 : (w.alloc (.cells #[.slice a r.commits.length cap, v1] 32)).cell? ⟨w.heap.size, 1, none⟩ = some v1 := by rw [cell_of_row _ _ 1 _ _ (0, 0) (heap_alloc_new _ _)]; rfl
  have HR : Hid (logLeft r xs at_ = if suspB r xs at_ = true then leftT r.commits at_ xs else []) := rfl
  have HS : Hid (suspB r xs at_ = (repoB r && (withinB at_ 0 ((r.commits.length : Int) - 1) && (anyB r.commits.length xs && decide (xs.length ≤ 16))))) := by show _ = _; unfold suspB; simp only [Bool.and_assoc]; cases withinB at_ 0 ((r.commits.length : Int) - 1) <;> simp
  cases hr : repoB r with
  | false =>
    rw [hr] at HS
    go_enter Tryd.func35, Tryd.ntmps35
    go_wp2_with fail
    refine (l7Ok_is _ _ r _ (Rep.keep h0 hB0) (Rep.keep h1 hB0) hr).mono ?_
    rintro e w1 ⟨rfl, hb1⟩
    go_wp2
    go_ret
    exact ⟨_, rfl, by rw [HR.out, HS.out]; exact Fresh.nil _ _ _ (by decide), hB0.trans (hb1.mono hB0.size)⟩
  | true =>
    rw [hr] at HS
    have hfew := repo_le hr
    go_enter Tryd.func35, Tryd.ntmps35
    go_wp2_with fail
    refine (l7Ok_is _ _ r _ (Rep.keep h0 hB0) (Rep.keep h1 hB0) hr).mono ?_
    rintro e w1 ⟨rfl, hb1⟩
    clear hr
    have q0 := keepc q0 hb1
    have q1 := keepc q1 hb1
    have HB := hB0.trans (hb1.mono hB0.size)
    cases hw : withinB at_ 0 ((r.commits.length : Int) - 1) with
    | false =>
      rw [hw] at HS
      go_wp2_with (go_at_call 55; with_reducible refine (l1In_is _ _ _ _ hw).mono ?_; rintro e w3 ⟨rfl, rfl⟩)
      go_ret
      exact ⟨_, rfl, by rw [HR.out, HS.out]; exact Fresh.nil _ _ _ (by decide), HB⟩
    | true =>
      rw [hw] at HS
      go_wp2_with (go_at_call 55; with_reducible refine (l1In_is _ _ _ _ hw).mono ?_; rintro e w3 ⟨rfl, rfl⟩)
      cases hy : (anyB r.commits.length xs && decide (xs.length ≤ 16)) with
      | false =>
        rw [hy] at HS
        refine (l12Any_is _ _ _ r.commits xs _ (Rep.keep h0 HB) (Rep.keep hu HB) hfew hy).mono ?_
        rintro e w2 ⟨rfl, hb2⟩
        go_wp2
        go_ret
        exact ⟨_, rfl, by rw [HR.out, HS.out]; exact Fresh.nil _ _ _ (by decide), HB.trans (hb2.mono HB.size)⟩
      | true =>
        rw [hy] at HS
        refine (l12Any_is _ _ _ r.commits xs _ (Rep.keep h0 HB) (Rep.keep hu HB) hfew hy).mono ?_
        rintro e w2 ⟨rfl, hb2⟩
        clear hy
        have q0 := keepc q0 hb2
        have q1 := keepc q1 hb2
        have HB := HB.trans (hb2.mono HB.size)
        have HSU : Hid (suspB r xs at_ = true) := HS
        obtain ⟨hp1, hp2, hp3, hp4, hp5⟩ := susp_parts HSU.out
        go_wp2_with fail
        refine (l12Left_any _ _ _ r.commits xs at_ _ (Rep.keep h0 HB) (Rep.keep hu HB) (repo_par hp1) hfew ⟨hp4, hp5⟩ hp2 (by omega)).mono ?_
        rintro e w4 ⟨v, rfl, hF, hb4⟩
        go_wp2
        go_ret
        exact ⟨_, rfl, by rw [HR.out, HSU.out]; exact hF.mono HB.size (Nat.le_refl _), HB.trans (hb4.mono HB.size)⟩
end Go.Proofs.YtmblockojnaffaaDoor
