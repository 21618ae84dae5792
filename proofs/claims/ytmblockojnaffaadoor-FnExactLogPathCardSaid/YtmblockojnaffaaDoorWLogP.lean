/-
  Walks: ancestors that are asked for, as the program has them.
-/
import Derived.Test.YtmblockojnaffaaDoorWRev
import Derived.Test.YtmblockojnaffaaDoorWRepo
import Derived.Test.YtmblockojnaffaaDoorPlLog
set_option linter.unusedVariables false
namespace Go.Proofs.YtmblockojnaffaaDoor
open Go.RowKit Go.Vc
open Go.Vc.Rep (rd)
open Go.Vc.Own (own)
set_option maxHeartbeats 8000000 in
set_option maxRecDepth 100000 in
theorem logPath_any {S T : Nat → Prop} (v0 v1 p1 p2 : Value) (r : Repo) (at_ : Int) (P : Int → Bool) (w : World) (h0 : rd S w [v0] r.commits) (h1 : rd T w [v1] r.heads) (hi : I64 at_) (hS : shortR r) (hM : ML w)
    (hcall : repoB r = true → ∀ (i : Int) (wq : World), 0 ≤ i → i < (r.commits.length : Int) → Below w.heap.size w wq → Calls Tryd.prog 83 #[.int .i64 i, p1, p2] wq fun e w' => e = .returned (.bool (P i)) ∧ Below wq.heap.size wq w') :
    Calls Tryd.prog 69 #[.agg #[v0, v1], .int .i64 at_, .func (.func 83) #[] #[p1, p2]] w fun e w' => ∃ v', e = .returned v' ∧ Fresh w.heap.size w'.heap.size w' [v'] (logT r at_ P) ∧ Below w.heap.size w w' := by
  have h0 := Rep.lt h0
  have h1 := Rep.lt h1
  have hB0 : Below w.heap.size w (w.alloc (.cells #[v0, v1] 32)) := ((Below.refl _ _).alloc (by simp <;> omega) _)
  have q0 : (w.alloc (.cells #[v0, v1] 32)).cell? ⟨w.heap.size, 0, none⟩ = some v0 := by rw [cell_of_row _ _ 0 _ _ (0, 0) (heap_alloc_new _ _)]; rfl
  have q1 : (w.alloc (.cells #[v0, v1] 32)).cell? ⟨w.heap.size, 1, none⟩ = some v1 := by rw [cell_of_row _ _ 1 _ _ (0, 0) (heap_alloc_new _ _)]; rfl
  have hB1 := hB0.alloc hB0.size (.cells #[.int .i64 at_] 3)
  have HR : Hid (logT r at_ P = if (repoB r && anyB r.commits.length [at_]) = true then ((allOf r.commits at_).filter P).reverse else []) := rfl
  have hBl := (Below.refl (w.alloc (.cells #[v0, v1] 32)).heap.size (w.alloc (.cells #[v0, v1] 32))).alloc (Nat.le_refl _) (.cells #[.int .i64 at_] 3)
  have q0' := keepc q0 hBl
  have q1' := keepc q1 hBl
  have hlit := heap_alloc_new (w.alloc (.cells #[v0, v1] 32)) (.cells #[.int .i64 at_] 3)
  have hsz : (w.alloc (.cells #[v0, v1] 32)).heap.size = w.heap.size + 1 := by simp
  rw [hsz] at hlit
  have hu : rd (fun b => b = w.heap.size + 1) ((w.alloc (.cells #[v0, v1] 32)).alloc (.cells #[.int .i64 at_] 3)) [.slice (some ⟨w.heap.size + 1, 0, none⟩) 1 1] [at_] := (lit_ints [at_] hlit (by simpa using hi) (by unfold maxLen; simp)).rd
  clear hlit hsz
  cases hq : (repoB r && anyB r.commits.length [at_]) with
  | false =>
    rw [hq] at HR
    go_enter Tryd.func69, Tryd.ntmps69
    go_wp2_with fail
    refine (are_is _ _ _ r [at_] _ (Rep.keep h0 hB1) (Rep.keep h1 hB1) hu hS (hM.keep hB1) hq).mono ?_
    rintro e w1 ⟨rfl, hb1⟩
    go_wp2
    go_ret
    exact ⟨_, rfl, by rw [HR.out]; exact Fresh.nil _ _ _ (by decide), hB1.trans (hb1.mono hB1.size)⟩
  | true =>
    rw [hq] at HR
    have hr : repoB r = true := by rw [Bool.and_eq_true] at hq; exact hq.1
    have hat : 0 ≤ at_ ∧ at_ < (r.commits.length : Int) := by
      rw [Bool.and_eq_true] at hq
      exact any_at hq.2 (k := 0) (by simp)
    have hPar := repo_par hr
    have hfew := repo_le hr
    have HCALL := Lib.hid (hcall hr)
    go_enter Tryd.func69, Tryd.ntmps69
    go_wp2_with fail
    refine (are_is _ _ _ r [at_] _ (Rep.keep h0 hB1) (Rep.keep h1 hB1) hu hS (hM.keep hB1) hq).mono ?_
    rintro e w1 ⟨rfl, hb1⟩
    clear hq hr hcall
    have q0 := keepc q0' hb1
    have q1 := keepc q1' hb1
    have HB := hB1.trans (hb1.mono hB1.size)
    go_wp2_with fail
    refine (ancestors_any _ _ r.commits _ _ (Rep.keep h0 HB) hPar hfew hat).mono ?_
    rintro e w3 ⟨g3, rfl, hF3, hb3⟩
    have HB := HB.trans (hb3.mono HB.size)
    have ha3 := anc_len r.commits at_
    go_wp2_with fail
    refine (listOf_any _ _ _ hF3.rd (by omega)).mono ?_
    rintro e w4 ⟨v4, rfl, hF4, hb4⟩
    have HB := HB.trans (hb4.mono HB.size)
    have hs4 := HB.size
    have hll := allOf_len r.commits at_
    have HMEM := Lib.hid (show ∀ x, x ∈ allOf r.commits at_ → 0 ≤ x ∧ x < (r.commits.length : Int) from fun x hx => allOf_mem hx)
    have hF4 : Fresh w3.heap.size w4.heap.size w4 [v4] (allOf r.commits at_) := hF4
    obtain ⟨ls, hls⟩ : ∃ ls, ls = allOf r.commits at_ := ⟨_, rfl⟩
    rw [← hls] at hF4 hll HMEM HR
    obtain ⟨a4, c4, rfl, ht4⟩ := hF4.shape
    have ht4 := ht4.lt
    clear hls hF4 hF3 hb1 hb3 hb4 q0 q1 q0' q1' hu
    go_wp2
    go_loopw [7, 20] (fun out i wr => (∃ (k : Nat) (ol : List Int), k ≤ ls.length ∧ i = .int .i64 k ∧ ol.length ≤ k ∧ Fresh w4.heap.size wr.heap.size wr [out] ol ∧ Hid (ls.filter P = ol ++ (ls.drop k).filter P)) ∧ Below w4.heap.size w4 wr) (fun _ i _ => ls.length - (intOf i).toNat)
    case atStart => exact ⟨⟨0, [], by omega, rfl, by simp, Fresh.nil _ _ _ (by decide), rfl⟩, Below.refl _ _⟩
    case round =>
      obtain ⟨⟨k, ol, hk, rfl, hol, hO, HA⟩, hbr⟩ := hrel
      obtain ⟨a2, c2, rfl, _⟩ := hO.shape
      have hsr := hbr.size
      have hb := HB.trans (hbr.mono HB.size)
      by_cases hlt : k < ls.length
      · obtain ⟨g, off, hal, hc, hi64⟩ := (ht4.keep hbr).int hlt
        subst hal
        obtain ⟨hx0, hx1⟩ := HMEM.out _ (List.getElem_mem hlt)
        cases hp : P ls[k] with
        | false =>
          have HN := Lib.hid (filt_no HA.out hlt hp)
          go_wp2_with fail
          refine (HCALL.out _ _ hx0 hx1 hb).mono ?_
          rintro e w5 ⟨rfl, hb5⟩
          rw [hp]
          go_wp2
          go_roundw
          case rel => exact ⟨⟨k + 1, ol, by omega, by go_num, by omega, (hO.below (Nat.le_refl _) hb5).now, HN.out⟩, hbr.trans (hb5.mono hbr.size)⟩
          case measure => simp [intOf] <;> omega
        | true =>
          have HN := Lib.hid (filt_yes HA.out hlt hp)
          go_wp2_with fail
          refine (HCALL.out _ _ hx0 hx1 hb).mono ?_
          rintro e w5 ⟨rfl, hb5⟩
          rw [hp]
          have hO := (hO.below (Nat.le_refl _) hb5).now
          have hbq := hbr.trans (hb5.mono hbr.size)
          have hsq := hbq.size
          go_wp2_with (at_builtin; go_must (refine wpList_app_leaf slz_int.slt rfl (.tmp 27) (.tmp 29) rfl rfl (hO.alloc _) (by simp; omega) rfl rfl (lit_ints [ls[k]] (heap_alloc_new _ _) (by simpa using hi64) (by unfold maxLen; simp)) (by simp; omega) (by unfold maxLen; simp; omega) ?_); intro a6 c6 w6 hG6)
          go_roundw
          case rel => exact ⟨⟨k + 1, ol ++ [ls[k]], by omega, by go_num, by simp; omega, by have := hG6.fresh; simpa using this, HN.out⟩, (hbq.alloc hsq _).trans hG6.below⟩
          case measure => simp [intOf] <;> omega
      · have HN := Lib.hid (filt_end HA.out hlt)
        go_wp2_with fail
        refine (reverse_any _ ol _ hO (Nat.le_refl _) hsr (by omega)).mono ?_
        rintro e w7 ⟨rfl, hF7, hb7⟩
        go_wp2
        go_ret
        exact ⟨_, rfl, by rw [HR.out, HN.out]; exact hF7.mono HB.size (Nat.le_refl _), hb.trans (hb7.mono HB.size)⟩
end Go.Proofs.YtmblockojnaffaaDoor
