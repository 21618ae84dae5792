/-
  Walks: lists of commits, as the program has them.
-/
import Derived.Test.YthhmaclhggmneaaGreatDoorVK
import Derived.Test.YthhmaclhggmneaaGreatDoorWRepo
set_option linter.unusedVariables false
namespace Go.Proofs.YthhmaclhggmneaaGreatDoor
open Go.RowKit Go.Vc
open Go.Vc.Rep (rd)
open Go.Vc.Own (own)


set_option maxHeartbeats 4000000 in
set_option maxRecDepth 100000 in
theorem are_is {S T U : Nat → Prop} (v0 v1 u : Value) (r : Repo) (xs : List Int) (w : World) (h0 : rd S w [v0] r.commits) (h1 : rd T w [v1] r.heads) (hu : rd U w [u] xs) (hS : shortR r) (hM : ML w) {b : Bool} (h : (repoB r && anyB r.commits.length xs) = b) :
    Calls Tryz.prog 34 #[.agg #[v0, v1], u] w fun e w' => e = .returned (.bool b) ∧ Below w.heap.size w w' := by
  subst h
  obtain ⟨a, cap, rfl, hs⟩ := rd_slice_elim (Rep.lt h0)
  obtain ⟨a1, c1, rfl, hs1⟩ := rd_slice_elim (Rep.lt h1)
  obtain ⟨a2, c2, rfl, ht⟩ := rd_slice_elim (Rep.lt hu)
  have hle := ht.le
  have hB0 : Below w.heap.size w (w.alloc (.cells #[.slice a r.commits.length cap, .slice a1 r.heads.length c1] 32)) := ((Below.refl _ _).alloc (by simp <;> omega) _)
  have q0 : (w.alloc (.cells #[.slice a r.commits.length cap, .slice a1 r.heads.length c1] 32)).cell? ⟨w.heap.size, 0, none⟩ = some (.slice a r.commits.length cap) := by rw [cell_of_row _ _ 0 _ _ (0, 0) (heap_alloc_new _ _)]; rfl
  have q1 : (w.alloc (.cells #[.slice a r.commits.length cap, .slice a1 r.heads.length c1] 32)).cell? ⟨w.heap.size, 1, none⟩ = some (.slice a1 r.heads.length c1) := by rw [cell_of_row _ _ 1 _ _ (0, 0) (heap_alloc_new _ _)]; rfl
  cases hr : repoB r with
  | false =>
    go_enter Tryz.func34, Tryz.ntmps34
    go_wp2_with fail
    refine (repoOk_is _ _ r _ (hs.keep hB0).rd (hs1.keep hB0).rd hS (hM.keep hB0) hr).mono ?_
    rintro e w1 ⟨rfl, hb1⟩
    go_wp2
    go_ret
    exact ⟨rfl, hB0.trans (hb1.mono hB0.size)⟩
  | true =>
    go_enter Tryz.func34, Tryz.ntmps34
    go_wp2_with fail
    refine (repoOk_is _ _ r _ (hs.keep hB0).rd (hs1.keep hB0).rd hS (hM.keep hB0) hr).mono ?_
    rintro e w1 ⟨rfl, hb1⟩
    have q0 := keepc q0 hb1
    have q1 := keepc q1 hb1
    have HB := hB0.trans (hb1.mono hB0.size)
    clear hb1 hB0 hr
    go_wp2
    go_loopw [12] (fun i wr => (∃ k : Nat, k ≤ xs.length ∧ i = .int .i64 k ∧ Hid (anyB r.commits.length xs = anyB r.commits.length (xs.drop k))) ∧ Below w1.heap.size w1 wr) (fun i _ => xs.length - (intOf i).toNat)
    case atStart => exact ⟨⟨0, by omega, rfl, rfl⟩, Below.refl _ _⟩
    case round =>
      obtain ⟨⟨k, hk, rfl, HA⟩, hbr⟩ := hrel
      have hb := HB.trans (hbr.mono HB.size)
      have q0r := keepc q0 hbr
      have q1r := keepc q1 hbr
      by_cases hlt : k < xs.length
      · obtain ⟨g, off, rfl, hc, _⟩ := (ht.keep hb).int hlt
        cases hw : withinB xs[k] 0 ((r.commits.length : Int) - 1) with
        | false =>
          have HN := Lib.hid (show anyB r.commits.length xs = false from all_bad HA.out hlt hw)
          go_wp2_with fail
          refine (exists_is _ _ r.commits _ _ (hs.keep hb).rd hw).mono ?_
          rintro e w2 ⟨rfl, hb2⟩
          go_wp2
          go_ret
          exact ⟨ret_bool (by rw [HN.out, Bool.and_false]), hb.trans (hb2.mono hb.size)⟩
        | true =>
          have HN := Lib.hid (show anyB r.commits.length xs = anyB r.commits.length (xs.drop (k + 1)) from all_next HA.out hlt hw)
          go_wp2_with fail
          refine (exists_is _ _ r.commits _ _ (hs.keep hb).rd hw).mono ?_
          rintro e w2 ⟨rfl, hb2⟩
          go_wp2
          go_roundw
          case rel => exact ⟨⟨k + 1, by omega, by go_num, HN.out⟩, hbr.trans (hb2.mono hbr.size)⟩
          case measure => simp [intOf] <;> omega
      · have HN := Lib.hid (show anyB r.commits.length xs = true from all_end HA.out hlt)
        go_wp2
        go_ret
        exact ⟨ret_bool (by rw [HN.out, Bool.and_true]), hb⟩


end Go.Proofs.YthhmaclhggmneaaGreatDoor
