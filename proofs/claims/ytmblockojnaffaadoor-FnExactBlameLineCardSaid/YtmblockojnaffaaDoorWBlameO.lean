/-
  Walks: which commit wrote each line: the two functions.
-/
import Derived.Test.YtmblockojnaffaaDoorWBlameS
set_option linter.unusedVariables false
namespace Go.Proofs.YtmblockojnaffaaDoor
open Go.RowKit Go.Vc
open Go.Vc.Rep (rd)
open Go.Vc.Own (own)
theorem repo_texts {r : Repo} (h : repoB r = true) : ∀ i : Int, 0 ≤ i → i < (r.commits.length : Int) → ∀ f, f ∈ treeAtC r.commits i → f.text.length ≤ 10 := fun i h0 h1 f hf => by
  have ht := repo_treeC h h0 h1
  obtain ⟨k, hk, rfl⟩ := List.getElem_of_mem hf
  unfold treeB at ht
  rw [Bool.and_eq_true] at ht
  exact textB_len (treeAt_path hk (of_decide_eq_true ht.2 k hk)).2

set_option maxHeartbeats 8000000 in
set_option maxRecDepth 100000 in
theorem implBlameOf {S T : Nat → Prop} (r : Repo) (v0 v1 : Value) (at_ : Int) (path : ByteArray) (w : World) (h0 : rd S w [v0] r.commits) (h1 : rd T w [v1] r.heads) (hi : I64 at_) (hz : path.size ≤ 1048576) (hS : shortR r) (hM : ML w) :
    Calls Tryd.prog 38 #[.agg #[v0, v1], .int .i64 at_, .string path] w fun e w' => ∃ v', e = .returned v' ∧ Fresh w.heap.size w'.heap.size w' [v'] (blameOf r at_ path) ∧ Below w.heap.size w w' := by
  have h0 := Rep.lt h0
  have h1 := Rep.lt h1
  have hB0 : Below w.heap.size w (w.alloc (.cells #[v0, v1] 32)) := ((Below.refl _ _).alloc (by simp <;> omega) _)
  have q0 : (w.alloc (.cells #[v0, v1] 32)).cell? ⟨w.heap.size, 0, none⟩ = some v0 := by rw [cell_of_row _ _ 0 _ _ (0, 0) (heap_alloc_new _ _)]; rfl
  have q1 : (w.alloc (.cells #[v0, v1] 32)).cell? ⟨w.heap.size, 1, none⟩ = some v1 := by rw [cell_of_row _ _ 1 _ _ (0, 0) (heap_alloc_new _ _)]; rfl
  have hB1 := hB0.alloc hB0.size (.cells #[.int .i64 at_] 3)
  have HR : Hid (blameOf r at_ path = if (repoB r && anyB r.commits.length [at_]) = true then (blameF r.commits path r.commits.length at_).getD [] else []) := rfl
  have hBl := (Below.refl (w.alloc (.cells #[v0, v1] 32)).heap.size (w.alloc (.cells #[v0, v1] 32))).alloc (Nat.le_refl _) (.cells #[.int .i64 at_] 3)
  have q0' := keepc q0 hBl
  have q1' := keepc q1 hBl
  have hlit := heap_alloc_new (w.alloc (.cells #[v0, v1] 32)) (.cells #[.int .i64 at_] 3)
  have hsz : (w.alloc (.cells #[v0, v1] 32)).heap.size = w.heap.size + 1 := by simp
  rw [hsz] at hlit
  have hu : rd (fun b => b = w.heap.size + 1) ((w.alloc (.cells #[v0, v1] 32)).alloc (.cells #[.int .i64 at_] 3)) [.slice (some ⟨w.heap.size + 1, 0, none⟩) 1 1] [at_] := (lit_ints [at_] hlit (by simpa using hi) (by unfold maxLen; simp)).rd
  clear hlit hsz
  cases hq : (repoB r && anyB r.commits.length [at_]) with
  | false =>
    rw [hq] at HR
    go_enter Tryd.func38, Tryd.ntmps38
    go_wp2_with fail
    refine (are_is _ _ _ r [at_] _ (Rep.keep h0 hB1) (Rep.keep h1 hB1) hu hS (hM.keep hB1) hq).mono ?_
    rintro e w1 ⟨rfl, hb1⟩
    go_wp2
    go_ret
    exact ⟨_, rfl, by rw [HR.out]; exact Fresh.nil _ _ _ (by decide), hB1.trans (hb1.mono hB1.size)⟩
  | true =>
    rw [hq] at HR
    have hr : repoB r = true := by rw [Bool.and_eq_true] at hq; exact hq.1
    have hat : 0 ≤ at_ ∧ at_ < (r.commits.length : Int) := by
      rw [Bool.and_eq_true] at hq
      exact any_at hq.2 (k := 0) (by simp)
    have hPar := repo_par hr
    have hfew := repo_le hr
    have hTx := repo_texts hr
    go_enter Tryd.func38, Tryd.ntmps38
    go_wp2_with fail
    refine (are_is _ _ _ r [at_] _ (Rep.keep h0 hB1) (Rep.keep h1 hB1) hu hS (hM.keep hB1) hq).mono ?_
    rintro e w1 ⟨rfl, hb1⟩
    have q0 := keepc q0' hb1
    have q1 := keepc q1' hb1
    have HB := hB1.trans (hb1.mono hB1.size)
    go_wp2_with fail
    refine (blame_any r.commits path hPar hfew hTx hz r.commits.length _ _ _ at_ _ (Rep.keep h0 HB) hat.1 hat.2 hat.2).mono ?_
    rintro e w2 ⟨v2, rfl, hF, hb2⟩
    go_wp2
    go_ret
    exact ⟨_, rfl, by rw [HR.out]; exact hF.mono HB.size (Nat.le_refl _), HB.trans (hb2.mono HB.size)⟩

set_option maxHeartbeats 8000000 in
set_option maxRecDepth 100000 in
theorem specBlameOf {S T : Nat → Prop} (r : Repo) (v0 v1 : Value) (at_ : Int) (path : ByteArray) (w : World) (h0 : rd S w [v0] r.commits) (h1 : rd T w [v1] r.heads) (hi : I64 at_) (hz : path.size ≤ 1048576) (hS : shortR r) (hM : ML w) :
    Calls Tryd.prog 37 #[.agg #[v0, v1], .int .i64 at_, .string path] w fun e w' => ∃ v', e = .returned v' ∧ Fresh w.heap.size w'.heap.size w' [v'] (blameOf r at_ path) ∧ Below w.heap.size w w' := by
  have h0 := Rep.lt h0
  have h1 := Rep.lt h1
  obtain ⟨a, cap, rfl, hs⟩ := rd_slice_elim h0
  have hle := hs.le
  have hB0 : Below w.heap.size w (w.alloc (.cells #[.slice a r.commits.length cap, v1] 32)) := ((Below.refl _ _).alloc (by simp <;> omega) _)
  have q0 : (w.alloc (.cells #[.slice a r.commits.length cap, v1] 32)).cell? ⟨w.heap.size, 0, none⟩ = some (.slice a r.commits.length cap) := by rw [cell_of_row _ _ 0 _ _ (0, 0) (heap_alloc_new _ _)]; rfl
  have q1 : (w.alloc (.cells #[.slice a r.commits.length cap, v1] 32)).cell? ⟨w.heap.size, 1, none⟩ = some v1 := by rw [cell_of_row _ _ 1 _ _ (0, 0) (heap_alloc_new _ _)]; rfl
  have HR : Hid (blameOf r at_ path = if (repoB r && withinB at_ 0 ((r.commits.length : Int) - 1)) = true then (blameF r.commits path r.commits.length at_).getD [] else []) := by show _ = _; unfold blameOf; rw [any_one]
  cases hr : repoB r with
  | false =>
    rw [hr] at HR
    go_enter Tryd.func37, Tryd.ntmps37
    go_wp2_with fail
    refine (l7Ok_is _ _ r _ (Rep.keep h0 hB0) (Rep.keep h1 hB0) hr).mono ?_
    rintro e w1 ⟨rfl, hb1⟩
    go_wp2
    go_ret
    exact ⟨_, rfl, by rw [HR.out]; exact Fresh.nil _ _ _ (by decide), hB0.trans (hb1.mono hB0.size)⟩
  | true =>
    rw [hr] at HR
    have hfew := repo_le hr
    have hPar := repo_par hr
    have hTx := repo_texts hr
    go_enter Tryd.func37, Tryd.ntmps37
    go_wp2_with fail
    refine (l7Ok_is _ _ r _ (Rep.keep h0 hB0) (Rep.keep h1 hB0) hr).mono ?_
    rintro e w1 ⟨rfl, hb1⟩
    clear hr
    have q0 := keepc q0 hb1
    have q1 := keepc q1 hb1
    have HB := hB0.trans (hb1.mono hB0.size)
    cases hw : withinB at_ 0 ((r.commits.length : Int) - 1) with
    | false =>
      rw [hw] at HR
      go_wp2_with (go_at_call 55; with_reducible refine (l1In_is _ _ _ _ hw).mono ?_; rintro e w3 ⟨rfl, rfl⟩)
      go_ret
      exact ⟨_, rfl, by rw [HR.out]; exact Fresh.nil _ _ _ (by decide), HB⟩
    | true =>
      rw [hw] at HR
      have hat : 0 ≤ at_ ∧ at_ < (r.commits.length : Int) := by
        simp only [withinB, Bool.and_eq_true, decide_eq_true_eq] at hw
        omega
      go_wp2_with (go_at_call 55; with_reducible refine (l1In_is _ _ _ _ hw).mono ?_; rintro e w3 ⟨rfl, rfl⟩)
      go_wp2_with fail
      refine (l11Of_any r.commits path hPar hfew hTx hz r.commits.length _ _ _ at_ _ (Rep.keep h0 HB) hat.1 hat.2 hat.2).mono ?_
      rintro e w2 ⟨v2, rfl, hF, hb2⟩
      go_wp2
      go_ret
      exact ⟨_, rfl, by rw [HR.out]; exact hF.mono HB.size (Nat.le_refl _), HB.trans (hb2.mono HB.size)⟩
end Go.Proofs.YtmblockojnaffaaDoor
