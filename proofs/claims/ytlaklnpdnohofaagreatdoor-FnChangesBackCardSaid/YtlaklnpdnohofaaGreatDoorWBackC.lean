/-
  Walks: changes taken back, as the reference has it.
-/
import Derived.Test.YtlaklnpdnohofaaGreatDoorVBK
set_option linter.unusedVariables false
namespace Go.Proofs.YtlaklnpdnohofaaGreatDoor
open Go.RowKit Go.Vc
open Go.Vc.Rep (rd)
open Go.Vc.Own (own)
set_option maxHeartbeats 16000000 in
set_option maxRecDepth 100000 in
theorem specChangesBack {S : Nat → Prop} (v : Value) (l : List Change) (w : World) (hv : rd S w [v] l) :
    Calls Tryz.prog 13 #[v] w fun e w' => ∃ v', e = .returned v' ∧ Fresh w.heap.size w'.heap.size w' [v'] (changesBack l) ∧ Below w.heap.size w w' := by
  obtain ⟨a1, cap1, rfl, hs⟩ := rd_slice_elim (Rep.lt hv)
  have hvl := Rep.lt hv
  have hE := Fresh.empty (β := Change) (by decide) w.heap.size w (Nat.le_refl _)
  obtain ⟨wE, hwE⟩ : ∃ wE, wE = w.alloc (.cells #[] 69) := ⟨_, rfl⟩
  have hbE : Below w.heap.size w wE := by rw [hwE]; exact (Below.refl _ _).alloc (Nat.le_refl _) _
  have hE2 := hE.now
  have HWE := Lib.hid hwE
  cases hcb : changesB l with
  | false =>
    have HR := Lib.hid (show changesBack l = [] by unfold changesBack; rw [if_neg (by rw [hcb]; simp)])
    clear hwE
    go_enter Tryz.func13, Tryz.ntmps13
    go_wp2_with fail
    rw [← HWE.out]
    refine (l5Ok_is _ l _ (Rep.keep hvl hbE) hcb).mono ?_
    rintro e wp ⟨rfl, hb1⟩
    go_wp2
    go_ret
    exact ⟨.slice none 0 0, rfl, by rw [HR.out]; exact Fresh.nil _ _ _ (by decide), hbE.trans (hb1.mono hbE.size)⟩
  | true =>
    obtain ⟨l1, l2, l3⟩ := (changesB_iff l).1 hcb
    obtain ⟨D, hD⟩ : ∃ D, D = changesBack l := ⟨_, rfl⟩
    have HD : Hid (D = [] ++ (l.drop 0).map backC) := by show _ = _; rw [hD]; unfold changesBack; rw [if_pos hcb]; rfl
    have hF0 : Fresh w.heap.size wE.heap.size wE [.slice (some ⟨w.heap.size, 0, none⟩) 0 0] ([] : List Change) := by rw [hwE]; exact hE2
    rw [← hD]
    clear hv hD l3 hwE hE hE2
    go_enter Tryz.func13, Tryz.ntmps13
    go_wp2_with fail
    rw [← HWE.out]
    refine (l5Ok_is _ l _ (Rep.keep hvl hbE) hcb).mono ?_
    rintro e wp ⟨rfl, hb1⟩
    have hb2 := hbE.trans (hb1.mono hbE.size)
    have hF1 := Fresh.below hF0 (Nat.le_refl _) hb1
    clear hcb HWE hF0 hbE hb1 hvl
    go_wp2
    go_loopw [3, 4] (fun out i wr => (∃ (k : Nat) (ol : List Change), k ≤ l.length ∧ i = .int .i64 k ∧ ol.length ≤ k ∧ Fresh w.heap.size wr.heap.size wr [out] ol ∧ Hid (D = ol ++ (l.drop k).map backC)) ∧ Below w.heap.size w wr) (fun _ i _ => l.length - (intOf i).toNat)
    case atStart => exact ⟨⟨0, [], by omega, rfl, by simp, hF1.now, HD.out⟩, hb2⟩
    case round =>
      clear HD hF1 hb2
      obtain ⟨⟨k, ol, hk, rfl, hol, hF, HA⟩, hb⟩ := hrel
      obtain ⟨wo, hwo⟩ : ∃ wo : World, wo = wr := ⟨_, rfl⟩
      subst hwo
      obtain ⟨ao, co, hvo, _⟩ := hF.shape
      subst hvo
      have hsx := hb.size
      by_cases hlt : k < l.length
      · obtain ⟨g, off, a3, c3, a4, c4, hag, e0, e1, e2, e3, e4, hi0, hz1, hz2, h3, h4⟩ := (hs.keep hb).change hlt
        subst hag
        have hcf := changeB_form (l2 l[k] (List.getElem_mem hlt))
        have HN := Lib.hid (backM_next HA.out hlt)
        obtain ⟨c, hc⟩ : ∃ c, c = l[k] := ⟨_, rfl⟩
        rw [← hc] at e0 e1 e2 e3 e4 hi0 hz1 hz2 h3 h4 hcf HN
        have hx10 : c.text.length ≤ 10 := by
          rcases hcf with ⟨p, x, rfl, _, hx⟩ | ⟨p, x, rfl, _, hx⟩ | ⟨p, pt, rfl, _⟩ | ⟨p, q, rfl, _⟩
          · exact text_len10 hx
          · exact text_len10 hx
          · exact Nat.zero_le _
          · exact Nat.zero_le _
        clear hc HA
        obtain ⟨kd, p, d, tx, pt⟩ := c
        dsimp only at e0 e1 e2 e3 e4 hi0 hz1 hz2 h3 h4 hx10
        have HCF := Lib.hid hcf
        have hF0 : FS (fun b => w.heap.size ≤ b ∧ b < wo.heap.size) wo [.slice ao ol.length co] ol := hF.fs
        have HZ2 := Lib.hid (fun (W : World) (h : Below wo.heap.size wo W) => (h4.keep (h.mono hsx) : IsSlice (fun b => b < w.heap.size) W a4 c4 pt))
        have hM0 : IsSlice (fun b => b < w.heap.size) wo a3 c3 tx := h3
        have K0 := And.intro e0 (And.intro e1 e3)
        have hb0 : Below wo.heap.size wo wo := Below.refl _ _
        have hlg : g < wo.heap.size := World.block_lt_of_cell? wo _ e2
        clear hF h3 h4 hcf e0 e1 e3
        go_wp2_with fail
        go_region_held3 (fun w' => w'.cell? ⟨g, off + k * 5, none⟩ = some (.int .i64 kd) ∧ w'.cell? ⟨g, off + k * 5 + 1, none⟩ = some (.string p) ∧ w'.cell? ⟨g, off + k * 5 + 3, none⟩ = some (.slice a3 tx.length c3))
          (first | ((repeat (first | with_reducible exact K5 | with_reducible exact K0 | with_reducible refine cells3_drew ?_ | with_reducible refine cells3_alloc ?_ _ | with_reducible refine cells3_set ?_ (by (try dsimp only); omega) (by (try dsimp only); omega) (by (try dsimp only); omega))); done) | go_keep)
          (first
            | (refine step_app_lit (g := wo.heap.size) (R := fun b => b < w.heap.size) (ys := tx) (te := 9) slz_string.slt Nat.one_pos rfl (.tmp 26) (.tmp 31) rfl rfl rfl ?_ rfl rfl ?_ ?_ ?_ ?_; (repeat (first | ((with_reducible refine HeapAt.at ?_); focus (first | rfl | (simp; done) | omega | (simp; omega))) | (with_reducible refine HeapAt.drew ?_) | (with_reducible refine HeapAt.alloc ?_ _))); (repeat (first | with_reducible exact hM0 | with_reducible refine IsSlice.drew ?_ | refine IsSlice.alloc ?_ _)); omega; (unfold maxLen; omega); intro e5 c5 m5 w5 hm5 hF5 hR5 hB5 hs5; (try simp at hm5); have hb5 : Below wo.heap.size wo w5 := Below.trans (by repeat (first | with_reducible exact hb0 | with_reducible refine Below.drew ?_ | with_reducible refine Below.alloc ?_ (by first | omega | (simp; omega) | (simp; done)) _)) (hB5 wo.heap.size (by omega) (by omega)); have K5 := cells3_keep K0 hb5; have hz5 := hb5.size; have hO2 := True.intro; have hbx9 : w5.heap[wo.heap.size + 1]? = some (.cells #[.int .i64 0, .string ⟨#[]⟩, .string ⟨#[]⟩, .slice none 0 0, .slice none 0 0] 69 (0, 0)) := (show HeapAt w5 (wo.heap.size + 1) _ from (by refine HeapAt.rest hR5 (by first | omega | (simp; omega) | (simp; done)) (by first | omega | (simp; omega) | (simp; done)) ?_; (repeat (first | ((with_reducible refine HeapAt.at ?_); focus (first | rfl | (simp; done) | omega | (simp; omega))) | (with_reducible refine HeapAt.drew ?_) | (with_reducible refine HeapAt.alloc ?_ _))))); have x0 := cell_of_row w5 (wo.heap.size + 1) 0 _ _ (0, 0) hbx9; have x1 := cell_of_row w5 (wo.heap.size + 1) 1 _ _ (0, 0) hbx9; have x2 := cell_of_row w5 (wo.heap.size + 1) 2 _ _ (0, 0) hbx9; have x3 := cell_of_row w5 (wo.heap.size + 1) 3 _ _ (0, 0) hbx9; have x4 := cell_of_row w5 (wo.heap.size + 1) 4 _ _ (0, 0) hbx9; have z0 := frozen_of_row w5 (wo.heap.size + 1) 0 _ _ hbx9; have z1 := frozen_of_row w5 (wo.heap.size + 1) 1 _ _ hbx9; have z2 := frozen_of_row w5 (wo.heap.size + 1) 2 _ _ hbx9; have z3 := frozen_of_row w5 (wo.heap.size + 1) 3 _ _ hbx9; have z4 := frozen_of_row w5 (wo.heap.size + 1) 4 _ _ hbx9; simp at x0 x1 x2 x3 x4)
            | (refine step_app_lit (g := (wo.heap.size + 1)) (R := fun b => b < w.heap.size) (ys := tx) (te := 9) slz_string.slt Nat.one_pos rfl (.tmp 26) (.tmp 31) rfl rfl rfl ?_ rfl rfl ?_ ?_ ?_ ?_; (repeat (first | ((with_reducible refine HeapAt.at ?_); focus (first | rfl | (simp; done) | omega | (simp; omega))) | (with_reducible refine HeapAt.drew ?_) | (with_reducible refine HeapAt.alloc ?_ _))); (repeat (first | with_reducible exact hM0 | with_reducible refine IsSlice.drew ?_ | refine IsSlice.alloc ?_ _)); omega; (unfold maxLen; omega); intro e5 c5 m5 w5 hm5 hF5 hR5 hB5 hs5; (try simp at hm5); have hb5 : Below wo.heap.size wo w5 := Below.trans (by repeat (first | with_reducible exact hb0 | with_reducible refine Below.drew ?_ | with_reducible refine Below.alloc ?_ (by first | omega | (simp; omega) | (simp; done)) _)) (hB5 wo.heap.size (by omega) (by omega)); have K5 := cells3_keep K0 hb5; have hz5 := hb5.size; have hO3 := True.intro; have hbx9 : w5.heap[wo.heap.size]? = some (.cells #[.int .i64 0, .string ⟨#[]⟩, .string ⟨#[]⟩, .slice none 0 0, .slice none 0 0] 69 (0, 0)) := (show HeapAt w5 (wo.heap.size) _ from (by refine HeapAt.rest hR5 (by first | omega | (simp; omega) | (simp; done)) (by first | omega | (simp; omega) | (simp; done)) ?_; (repeat (first | ((with_reducible refine HeapAt.at ?_); focus (first | rfl | (simp; done) | omega | (simp; omega))) | (with_reducible refine HeapAt.drew ?_) | (with_reducible refine HeapAt.alloc ?_ _))))); have x0 := cell_of_row w5 (wo.heap.size) 0 _ _ (0, 0) hbx9; have x1 := cell_of_row w5 (wo.heap.size) 1 _ _ (0, 0) hbx9; have x2 := cell_of_row w5 (wo.heap.size) 2 _ _ (0, 0) hbx9; have x3 := cell_of_row w5 (wo.heap.size) 3 _ _ (0, 0) hbx9; have x4 := cell_of_row w5 (wo.heap.size) 4 _ _ (0, 0) hbx9; have z0 := frozen_of_row w5 (wo.heap.size) 0 _ _ hbx9; have z1 := frozen_of_row w5 (wo.heap.size) 1 _ _ hbx9; have z2 := frozen_of_row w5 (wo.heap.size) 2 _ _ hbx9; have z3 := frozen_of_row w5 (wo.heap.size) 3 _ _ hbx9; have z4 := frozen_of_row w5 (wo.heap.size) 4 _ _ hbx9; simp at x0 x1 x2 x3 x4)
            | (refine step_app_lit (g := wo.heap.size) (R := fun b => b < w.heap.size) (ys := tx) (te := 9) slz_string.slt Nat.one_pos rfl (.tmp 26) (.tmp 31) rfl rfl rfl ?_ rfl rfl ?_ ?_ ?_ ?_; (repeat (first | ((with_reducible refine HeapAt.at ?_); focus (first | rfl | (simp; done) | omega | (simp; omega))) | (with_reducible refine HeapAt.drew ?_) | (with_reducible refine HeapAt.alloc ?_ _))); (repeat (first | with_reducible exact hM0 | with_reducible refine IsSlice.drew ?_ | refine IsSlice.alloc ?_ _)); omega; (unfold maxLen; omega); intro e5 c5 m5 w5 hm5 hF5 hR5 hB5 hs5; (try simp at hm5); have hb5 : Below wo.heap.size wo w5 := Below.trans (by repeat (first | with_reducible exact hb0 | with_reducible refine Below.drew ?_ | with_reducible refine Below.alloc ?_ (by first | omega | (simp; omega) | (simp; done)) _)) (hB5 wo.heap.size (by omega) (by omega)); have K5 := cells3_keep K0 hb5; have hz5 := hb5.size; have hO1 := True.intro))
        any_goals (
          have hm := hO1
          obtain ⟨wz, hwz⟩ : ∃ wz, wz = w5.alloc (.cells #[.int .i64 kd, .string p, .string ⟨#[]⟩, .slice e5 tx.length c5, .slice none 0 0] 69) := ⟨_, rfl⟩
          obtain ⟨bx, hbx⟩ : ∃ bx, bx = w5.heap.size := ⟨_, rfl⟩
          have hbox : wz.heap[bx]? = some (.cells #[.int .i64 kd, .string p, .string ⟨#[]⟩, .slice e5 tx.length c5, .slice none 0 0] 69 (0, 0)) := (by rw [hwz, hbx]; exact heap_alloc_new _ _)
          have hbz : Below wo.heap.size wo wz := (by rw [hwz]; exact hb5.alloc hb5.size _)
          have hAz : FS (fun b => wo.heap.size ≤ b ∧ b ≠ bx) wz [.slice e5 tx.length c5] tx := (by rw [hwz]; exact (FS.alloc hF5 _).mono (fun b hb hl => (by omega)))
          have hbxo : wo.heap.size ≤ bx := (by omega)
          rw [← hwz, ← hbx]
          clear hm hwz hbx hF5 hb5 K5 hR5 hB5 hs5 hO1)
        any_goals (
          have hm := hO2
          obtain ⟨wz, hwz⟩ : ∃ wz, wz = (((((w5.setCell ⟨wo.heap.size + 1, 0, none⟩ (.int .i64 kd)).setCell ⟨wo.heap.size + 1, 1, none⟩ (.string p)).setCell ⟨wo.heap.size + 1, 2, none⟩ (.string ⟨#[]⟩)).setCell ⟨wo.heap.size + 1, 3, none⟩ (.slice e5 tx.length c5)).setCell ⟨wo.heap.size + 1, 4, none⟩ (.slice none 0 0)) := ⟨_, rfl⟩
          obtain ⟨bx, hbx⟩ : ∃ bx, bx = wo.heap.size + 1 := ⟨_, rfl⟩
          have hbox : wz.heap[bx]? = some (.cells #[.int .i64 kd, .string p, .string ⟨#[]⟩, .slice e5 tx.length c5, .slice none 0 0] 69 (0, 0)) := (by rw [hwz, hbx]; exact (heap_setCell_same _ _ 4 _ _ _ (heap_setCell_same _ _ 3 _ _ _ (heap_setCell_same _ _ 2 _ _ _ (heap_setCell_same _ _ 1 _ _ _ (heap_setCell_same _ _ 0 _ _ _ hbx9))))))
          have hbz : Below wo.heap.size wo wz := (by rw [hwz]; exact (((((hb5.setCell (p := ⟨wo.heap.size + 1, 0, none⟩) (by show wo.heap.size ≤ wo.heap.size + 1; omega) _).setCell (p := ⟨wo.heap.size + 1, 1, none⟩) (by show wo.heap.size ≤ wo.heap.size + 1; omega) _).setCell (p := ⟨wo.heap.size + 1, 2, none⟩) (by show wo.heap.size ≤ wo.heap.size + 1; omega) _).setCell (p := ⟨wo.heap.size + 1, 3, none⟩) (by show wo.heap.size ≤ wo.heap.size + 1; omega) _).setCell (p := ⟨wo.heap.size + 1, 4, none⟩) (by show wo.heap.size ≤ wo.heap.size + 1; omega) _))
          have hAz : FS (fun b => wo.heap.size ≤ b ∧ b ≠ bx) wz [.slice e5 tx.length c5] tx := (by rw [hwz]; refine FS.keep (w := w5) (hF5.mono (T := fun b => wo.heap.size ≤ b ∧ b ≠ bx) (fun b hb hl => (by omega))) (fun b hb hl => (by have hne : b ≠ wo.heap.size + 1 := (by rw [← hbx]; exact hb.2); exact ((((Below.heap_setCell _ _ _ b hne).trans (Below.heap_setCell _ _ _ b hne)).trans (Below.heap_setCell _ _ _ b hne)).trans (Below.heap_setCell _ _ _ b hne)).trans (Below.heap_setCell _ _ _ b hne))))
          have hbxo : wo.heap.size ≤ bx := (by omega)
          rw [← hwz, ← hbx]
          clear hm hwz hbx hF5 hb5 K5 hR5 hB5 hs5 hbx9 x0 x1 x2 x3 x4 z0 z1 z2 z3 z4 hO2)
        any_goals (
          have hm := hO3
          obtain ⟨wz, hwz⟩ : ∃ wz, wz = (((((w5.setCell ⟨wo.heap.size, 0, none⟩ (.int .i64 kd)).setCell ⟨wo.heap.size, 1, none⟩ (.string p)).setCell ⟨wo.heap.size, 2, none⟩ (.string ⟨#[]⟩)).setCell ⟨wo.heap.size, 3, none⟩ (.slice e5 tx.length c5)).setCell ⟨wo.heap.size, 4, none⟩ (.slice none 0 0)) := ⟨_, rfl⟩
          obtain ⟨bx, hbx⟩ : ∃ bx, bx = wo.heap.size := ⟨_, rfl⟩
          have hbox : wz.heap[bx]? = some (.cells #[.int .i64 kd, .string p, .string ⟨#[]⟩, .slice e5 tx.length c5, .slice none 0 0] 69 (0, 0)) := (by rw [hwz, hbx]; exact (heap_setCell_same _ _ 4 _ _ _ (heap_setCell_same _ _ 3 _ _ _ (heap_setCell_same _ _ 2 _ _ _ (heap_setCell_same _ _ 1 _ _ _ (heap_setCell_same _ _ 0 _ _ _ hbx9))))))
          have hbz : Below wo.heap.size wo wz := (by rw [hwz]; exact (((((hb5.setCell (p := ⟨wo.heap.size, 0, none⟩) (by show wo.heap.size ≤ wo.heap.size; omega) _).setCell (p := ⟨wo.heap.size, 1, none⟩) (by show wo.heap.size ≤ wo.heap.size; omega) _).setCell (p := ⟨wo.heap.size, 2, none⟩) (by show wo.heap.size ≤ wo.heap.size; omega) _).setCell (p := ⟨wo.heap.size, 3, none⟩) (by show wo.heap.size ≤ wo.heap.size; omega) _).setCell (p := ⟨wo.heap.size, 4, none⟩) (by show wo.heap.size ≤ wo.heap.size; omega) _))
          have hAz : FS (fun b => wo.heap.size ≤ b ∧ b ≠ bx) wz [.slice e5 tx.length c5] tx := (by rw [hwz]; refine FS.keep (w := w5) (hF5.mono (T := fun b => wo.heap.size ≤ b ∧ b ≠ bx) (fun b hb hl => (by omega))) (fun b hb hl => (by have hne : b ≠ wo.heap.size := (by rw [← hbx]; exact hb.2); exact ((((Below.heap_setCell _ _ _ b hne).trans (Below.heap_setCell _ _ _ b hne)).trans (Below.heap_setCell _ _ _ b hne)).trans (Below.heap_setCell _ _ _ b hne)).trans (Below.heap_setCell _ _ _ b hne))))
          have hbxo : wo.heap.size ≤ bx := (by omega)
          rw [← hwz, ← hbx]
          clear hm hwz hbx hF5 hb5 K5 hR5 hB5 hs5 hbx9 x0 x1 x2 x3 x4 z0 z1 z2 z3 z4 hO3)
        all_goals
          have hszz := hbz.size
          have hbzz := hb.trans (hbz.mono hsx)
          have hlz : bx < wz.heap.size := (Array.getElem?_eq_some_iff.1 hbox).1
          have hgb : ¬ g = bx := by omega
          have hgb2 : ¬ bx = g := by omega
          have hFz : FS (fun b => w.heap.size ≤ b ∧ b < wo.heap.size) wz [.slice ao ol.length co] ol := hF0.keep (fun b h _ => hbz.block b h.2)
          have f0 := keepc K0.1 hbz
          have f1 := keepc K0.2.1 hbz
          have f2 := keepc e2 hbz
          have f4 := keepc e4 hbz
          have hP4 := HZ2.out _ hbz
          clear K0 e2 e4 HZ2 hF0 hM0 hb0
          rcases HCF.out with ⟨p', x', hc, _, hx⟩ | ⟨p', x', hc, _, hx⟩ | ⟨p', pt', hc, _, _, hx⟩ | ⟨p', q', hc, _, _, _⟩
          · obtain ⟨rfl, rfl, rfl, rfl, rfl⟩ := Change.mk.inj hc
            rw [show (([] : List Hunk).length) = 0 from rfl] at f4
            rw [backC_1] at HN
            clear HCF hc
            have x0 := cell_of_row wz bx 0 _ _ (0, 0) hbox
            have x1 := cell_of_row wz bx 1 _ _ (0, 0) hbox
            have x2 := cell_of_row wz bx 2 _ _ (0, 0) hbox
            have x3 := cell_of_row wz bx 3 _ _ (0, 0) hbox
            have x4 := cell_of_row wz bx 4 _ _ (0, 0) hbox
            have z0 := frozen_of_row wz bx 0 _ _ hbox
            have z1 := frozen_of_row wz bx 1 _ _ hbox
            have z2 := frozen_of_row wz bx 2 _ _ hbox
            have z3 := frozen_of_row wz bx 3 _ _ hbox
            have z4 := frozen_of_row wz bx 4 _ _ hbox
            simp at x0 x1 x2 x3 x4
            obtain ⟨w6, hw6⟩ : ∃ w6, w6 = (wz.setCell ⟨bx, 0, none⟩ (.int .i64 2)) := ⟨_, rfl⟩
            have hs6 : w6.heap.size = wz.heap.size := by rw [hw6]; simp [World.setCell]
            have hb6 : Below w.heap.size w w6 := by rw [hw6]; exact (hbzz).setCell (by show w.heap.size ≤ bx; omega) _
            have hF6 : FS (fun b => w.heap.size ≤ b ∧ b < wo.heap.size) w6 [.slice ao ol.length co] ol := by
              rw [hw6]
              refine FS.keep (w := wz) hFz (fun b h _ => ?_)
              have hne : b ≠ bx := by have := h.2; omega
              exact Below.heap_setCell _ _ _ b hne
            have hA6 : FS (fun b => (wo.heap.size ≤ b ∧ b ≠ bx) ∧ b < wz.heap.size) w6 [.slice e5 tx.length c5] tx := by
              rw [hw6]
              refine FS.keep (w := wz) (FS.mono (T := fun b => (wo.heap.size ≤ b ∧ b ≠ bx) ∧ b < wz.heap.size) hAz (fun b h hl => ⟨h, hl⟩)) (fun b h _ => ?_)
              have hne : b ≠ bx := h.1.2
              exact Below.heap_setCell _ _ _ b hne
            have HY := fun (ob : Obj) => FS.change (w := w6.alloc ob) (p := ⟨2, p, ⟨#[]⟩, tx, []⟩) (show I64 2 by unfold I64; omega) (by show _ ≤ maxLen; exact hz1) (by show _ ≤ maxLen; exact hz2) (hA6.alloc _) (Fresh.nil (β := Hunk) wz.heap.size wz.heap.size _ (by decide)).fs (fun b h1 h2 _ => by have h4 : wz.heap.size ≤ b ∧ b < wz.heap.size := h2; omega)
            have HW6 := Lib.hid hw6
            clear hw6 hA6 hbox hAz hFz
            go_wp2_with (at_builtin; rw [← HW6.out]; (refine wpList_app_oneS slz_change.slt rfl (.tmp 68) (.tmp 70) rfl rfl (hF6.alloc _) rfl (by first | exact heap_new_at hs6.symm | exact heap_alloc_new _ _ | exact heap_new_at (by simp [hs6])) (HY _) (fun b h5 h6 _ => by have h7 : w.heap.size ≤ b ∧ b < wo.heap.size := h5; have h8 : ((wo.heap.size ≤ b ∧ b ≠ bx) ∧ b < wz.heap.size) ∨ (wz.heap.size ≤ b ∧ b < wz.heap.size) := h6; omega) (by omega) (by unfold maxLen; omega) ?_); intro a8 c8 w8 hF8 hb8 hr8)
            have hBn : Below w.heap.size w w8 := (hb6.alloc (by omega) _).trans (hb8 w.heap.size (by simp; omega) (fun b h _ => h.1))
            have hFn : Fresh w.heap.size w8.heap.size w8 [.slice a8 (ol.length + 1) c8] (ol ++ [(⟨2, p, ⟨#[]⟩, tx, []⟩ : Change)]) := by
              refine hF8.fresh (fun b h hl => ⟨?_, hl⟩)
              rcases h with h | h | h
              · exact h.1
              · have h8 : ((wo.heap.size ≤ b ∧ b ≠ bx) ∧ b < wz.heap.size) ∨ (wz.heap.size ≤ b ∧ b < wz.heap.size) := h
                omega
              · simp at h; omega
            go_roundw
            case rel => exact ⟨⟨k + 1, _, by omega, by go_num, by simp; omega, hFn, HN.out⟩, hBn⟩
            case measure => simp [intOf] <;> omega
          · obtain ⟨rfl, rfl, rfl, rfl, rfl⟩ := Change.mk.inj hc
            rw [show (([] : List Hunk).length) = 0 from rfl] at f4
            rw [backC_2] at HN
            clear HCF hc
            have x0 := cell_of_row wz bx 0 _ _ (0, 0) hbox
            have x1 := cell_of_row wz bx 1 _ _ (0, 0) hbox
            have x2 := cell_of_row wz bx 2 _ _ (0, 0) hbox
            have x3 := cell_of_row wz bx 3 _ _ (0, 0) hbox
            have x4 := cell_of_row wz bx 4 _ _ (0, 0) hbox
            have z0 := frozen_of_row wz bx 0 _ _ hbox
            have z1 := frozen_of_row wz bx 1 _ _ hbox
            have z2 := frozen_of_row wz bx 2 _ _ hbox
            have z3 := frozen_of_row wz bx 3 _ _ hbox
            have z4 := frozen_of_row wz bx 4 _ _ hbox
            simp at x0 x1 x2 x3 x4
            obtain ⟨w6, hw6⟩ : ∃ w6, w6 = (wz.setCell ⟨bx, 0, none⟩ (.int .i64 1)) := ⟨_, rfl⟩
            have hs6 : w6.heap.size = wz.heap.size := by rw [hw6]; simp [World.setCell]
            have hb6 : Below w.heap.size w w6 := by rw [hw6]; exact (hbzz).setCell (by show w.heap.size ≤ bx; omega) _
            have hF6 : FS (fun b => w.heap.size ≤ b ∧ b < wo.heap.size) w6 [.slice ao ol.length co] ol := by
              rw [hw6]
              refine FS.keep (w := wz) hFz (fun b h _ => ?_)
              have hne : b ≠ bx := by have := h.2; omega
              exact Below.heap_setCell _ _ _ b hne
            have hA6 : FS (fun b => (wo.heap.size ≤ b ∧ b ≠ bx) ∧ b < wz.heap.size) w6 [.slice e5 tx.length c5] tx := by
              rw [hw6]
              refine FS.keep (w := wz) (FS.mono (T := fun b => (wo.heap.size ≤ b ∧ b ≠ bx) ∧ b < wz.heap.size) hAz (fun b h hl => ⟨h, hl⟩)) (fun b h _ => ?_)
              have hne : b ≠ bx := h.1.2
              exact Below.heap_setCell _ _ _ b hne
            have HY := fun (ob : Obj) => FS.change (w := w6.alloc ob) (p := ⟨1, p, ⟨#[]⟩, tx, []⟩) (show I64 1 by unfold I64; omega) (by show _ ≤ maxLen; exact hz1) (by show _ ≤ maxLen; exact hz2) (hA6.alloc _) (Fresh.nil (β := Hunk) wz.heap.size wz.heap.size _ (by decide)).fs (fun b h1 h2 _ => by have h4 : wz.heap.size ≤ b ∧ b < wz.heap.size := h2; omega)
            have HW6 := Lib.hid hw6
            clear hw6 hA6 hbox hAz hFz
            go_wp2_with (at_builtin; rw [← HW6.out]; (refine wpList_app_oneS slz_change.slt rfl (.tmp 68) (.tmp 70) rfl rfl (hF6.alloc _) rfl (by first | exact heap_new_at hs6.symm | exact heap_alloc_new _ _ | exact heap_new_at (by simp [hs6])) (HY _) (fun b h5 h6 _ => by have h7 : w.heap.size ≤ b ∧ b < wo.heap.size := h5; have h8 : ((wo.heap.size ≤ b ∧ b ≠ bx) ∧ b < wz.heap.size) ∨ (wz.heap.size ≤ b ∧ b < wz.heap.size) := h6; omega) (by omega) (by unfold maxLen; omega) ?_); intro a8 c8 w8 hF8 hb8 hr8)
            have hBn : Below w.heap.size w w8 := (hb6.alloc (by omega) _).trans (hb8 w.heap.size (by simp; omega) (fun b h _ => h.1))
            have hFn : Fresh w.heap.size w8.heap.size w8 [.slice a8 (ol.length + 1) c8] (ol ++ [(⟨1, p, ⟨#[]⟩, tx, []⟩ : Change)]) := by
              refine hF8.fresh (fun b h hl => ⟨?_, hl⟩)
              rcases h with h | h | h
              · exact h.1
              · have h8 : ((wo.heap.size ≤ b ∧ b ≠ bx) ∧ b < wz.heap.size) ∨ (wz.heap.size ≤ b ∧ b < wz.heap.size) := h
                omega
              · simp at h; omega
            go_roundw
            case rel => exact ⟨⟨k + 1, _, by omega, by go_num, by simp; omega, hFn, HN.out⟩, hBn⟩
            case measure => simp [intOf] <;> omega
          · obtain ⟨rfl, rfl, rfl, rfl, rfl⟩ := Change.mk.inj hc
            rw [backC_3] at HN
            clear HCF hc
            go_wp2_with fail
            refine (specL2Back _ pt _ hP4.rd hx).mono ?_
            rintro e w4 ⟨v9, rfl, hY, hb4⟩
            obtain ⟨a9, c9, hv9, _⟩ := hY.shape
            subst hv9
            have hs4 := hb4.size
            have hbox4 := (hb4.block _ hlz).trans hbox
            have x0 := cell_of_row w4 bx 0 _ _ (0, 0) hbox4
            have x1 := cell_of_row w4 bx 1 _ _ (0, 0) hbox4
            have x2 := cell_of_row w4 bx 2 _ _ (0, 0) hbox4
            have x3 := cell_of_row w4 bx 3 _ _ (0, 0) hbox4
            have x4 := cell_of_row w4 bx 4 _ _ (0, 0) hbox4
            have z0 := frozen_of_row w4 bx 0 _ _ hbox4
            have z1 := frozen_of_row w4 bx 1 _ _ hbox4
            have z2 := frozen_of_row w4 bx 2 _ _ hbox4
            have z3 := frozen_of_row w4 bx 3 _ _ hbox4
            have z4 := frozen_of_row w4 bx 4 _ _ hbox4
            simp at x0 x1 x2 x3 x4
            obtain ⟨w6, hw6⟩ : ∃ w6, w6 = (w4.setCell ⟨bx, 4, none⟩ (.slice a9 (backF pt 0).length c9)) := ⟨_, rfl⟩
            have hs6 : w6.heap.size = w4.heap.size := by rw [hw6]; simp [World.setCell]
            have hb6 : Below w.heap.size w w6 := by rw [hw6]; exact (hbzz.trans (hb4.mono hbzz.size)).setCell (by show w.heap.size ≤ bx; omega) _
            have hF6 : FS (fun b => w.heap.size ≤ b ∧ b < wo.heap.size) w6 [.slice ao ol.length co] ol := by
              rw [hw6]
              refine FS.keep (w := w4) (hFz.below hb4 (fun b h _ => by have := h.2; omega)) (fun b h _ => ?_)
              have hne : b ≠ bx := by have := h.2; omega
              exact Below.heap_setCell _ _ _ b hne
            have hA6 : FS (fun b => (wo.heap.size ≤ b ∧ b ≠ bx) ∧ b < wz.heap.size) w6 [.slice e5 ([] : List ByteArray).length c5] ([] : List ByteArray) := by
              rw [hw6]
              refine FS.keep (w := w4) (FS.keep (w := wz) (FS.mono (T := fun b => (wo.heap.size ≤ b ∧ b ≠ bx) ∧ b < wz.heap.size) hAz (fun b h hl => ⟨h, hl⟩)) (fun b h _ => hb4.block b h.2)) (fun b h _ => ?_)
              have hne : b ≠ bx := h.1.2
              exact Below.heap_setCell _ _ _ b hne
            have hY6 : FS (fun b => wz.heap.size ≤ b ∧ b < w4.heap.size) w6 [.slice a9 (backF pt 0).length c9] (backF pt 0) := by
              rw [hw6]
              refine FS.keep (w := w4) hY.fs (fun b h _ => ?_)
              have hne : b ≠ bx := by have := h.1; omega
              exact Below.heap_setCell _ _ _ b hne
            have HY := fun (ob : Obj) => FS.change (w := w6.alloc ob) (p := ⟨3, p, ⟨#[]⟩, [], (backF pt 0)⟩) (show I64 3 by unfold I64; omega) (by show _ ≤ maxLen; exact hz1) (by show _ ≤ maxLen; exact hz2) (hA6.alloc _) (hY6.alloc _) (fun b h1 h2 _ => by have h3 := h1.2; have h4 : wz.heap.size ≤ b ∧ b < w4.heap.size := h2; omega)
            have HW6 := Lib.hid hw6
            clear hw6 hA6 hbox hAz hFz hY hY6 hb4 hbox4
            go_wp2_with (at_builtin; rw [← HW6.out]; (refine wpList_app_oneS slz_change.slt rfl (.tmp 68) (.tmp 70) rfl rfl (hF6.alloc _) rfl (by first | exact heap_new_at hs6.symm | exact heap_alloc_new _ _ | exact heap_new_at (by simp [hs6])) (HY _) (fun b h5 h6 _ => by have h7 : w.heap.size ≤ b ∧ b < wo.heap.size := h5; have h8 : ((wo.heap.size ≤ b ∧ b ≠ bx) ∧ b < wz.heap.size) ∨ (wz.heap.size ≤ b ∧ b < w4.heap.size) := h6; omega) (by omega) (by unfold maxLen; omega) ?_); intro a8 c8 w8 hF8 hb8 hr8)
            have hBn : Below w.heap.size w w8 := (hb6.alloc (by omega) _).trans (hb8 w.heap.size (by simp; omega) (fun b h _ => h.1))
            have hFn : Fresh w.heap.size w8.heap.size w8 [.slice a8 (ol.length + 1) c8] (ol ++ [(⟨3, p, ⟨#[]⟩, [], (backF pt 0)⟩ : Change)]) := by
              refine hF8.fresh (fun b h hl => ⟨?_, hl⟩)
              rcases h with h | h | h
              · exact h.1
              · have h8 : ((wo.heap.size ≤ b ∧ b ≠ bx) ∧ b < wz.heap.size) ∨ (wz.heap.size ≤ b ∧ b < w4.heap.size) := h
                omega
              · simp at h; omega
            go_roundw
            case rel => exact ⟨⟨k + 1, _, by omega, by go_num, by simp; omega, hFn, HN.out⟩, hBn⟩
            case measure => simp [intOf] <;> omega
          · obtain ⟨rfl, rfl, rfl, rfl, rfl⟩ := Change.mk.inj hc
            rw [show (([] : List Hunk).length) = 0 from rfl] at f4
            rw [backC_4] at HN
            clear HCF hc
            have x0 := cell_of_row wz bx 0 _ _ (0, 0) hbox
            have x1 := cell_of_row wz bx 1 _ _ (0, 0) hbox
            have x2 := cell_of_row wz bx 2 _ _ (0, 0) hbox
            have x3 := cell_of_row wz bx 3 _ _ (0, 0) hbox
            have x4 := cell_of_row wz bx 4 _ _ (0, 0) hbox
            have z0 := frozen_of_row wz bx 0 _ _ hbox
            have z1 := frozen_of_row wz bx 1 _ _ hbox
            have z2 := frozen_of_row wz bx 2 _ _ hbox
            have z3 := frozen_of_row wz bx 3 _ _ hbox
            have z4 := frozen_of_row wz bx 4 _ _ hbox
            simp at x0 x1 x2 x3 x4
            obtain ⟨w6, hw6⟩ : ∃ w6, w6 = ((wz.setCell ⟨bx, 1, none⟩ (.string d)).setCell ⟨bx, 2, none⟩ (.string p)) := ⟨_, rfl⟩
            have hs6 : w6.heap.size = wz.heap.size := by rw [hw6]; simp [World.setCell]
            have hb6 : Below w.heap.size w w6 := by rw [hw6]; exact ((hbzz).setCell (by show w.heap.size ≤ bx; omega) _).setCell (by show w.heap.size ≤ bx; omega) _
            have hF6 : FS (fun b => w.heap.size ≤ b ∧ b < wo.heap.size) w6 [.slice ao ol.length co] ol := by
              rw [hw6]
              refine FS.keep (w := wz) hFz (fun b h _ => ?_)
              have hne : b ≠ bx := by have := h.2; omega
              exact (Below.heap_setCell _ _ _ b hne).trans (Below.heap_setCell _ _ _ b hne)
            have hA6 : FS (fun b => (wo.heap.size ≤ b ∧ b ≠ bx) ∧ b < wz.heap.size) w6 [.slice e5 ([] : List ByteArray).length c5] ([] : List ByteArray) := by
              rw [hw6]
              refine FS.keep (w := wz) (FS.mono (T := fun b => (wo.heap.size ≤ b ∧ b ≠ bx) ∧ b < wz.heap.size) hAz (fun b h hl => ⟨h, hl⟩)) (fun b h _ => ?_)
              have hne : b ≠ bx := h.1.2
              exact (Below.heap_setCell _ _ _ b hne).trans (Below.heap_setCell _ _ _ b hne)
            have HY := fun (ob : Obj) => FS.change (w := w6.alloc ob) (p := ⟨4, d, p, [], []⟩) (show I64 4 by unfold I64; omega) (by show _ ≤ maxLen; exact hz2) (by show _ ≤ maxLen; exact hz1) (hA6.alloc _) (Fresh.nil (β := Hunk) wz.heap.size wz.heap.size _ (by decide)).fs (fun b h1 h2 _ => by have h4 : wz.heap.size ≤ b ∧ b < wz.heap.size := h2; omega)
            have HW6 := Lib.hid hw6
            clear hw6 hA6 hbox hAz hFz
            go_wp2_with (at_builtin; rw [← HW6.out]; (refine wpList_app_oneS slz_change.slt rfl (.tmp 68) (.tmp 70) rfl rfl (hF6.alloc _) rfl (by first | exact heap_new_at hs6.symm | exact heap_alloc_new _ _ | exact heap_new_at (by simp [hs6])) (HY _) (fun b h5 h6 _ => by have h7 : w.heap.size ≤ b ∧ b < wo.heap.size := h5; have h8 : ((wo.heap.size ≤ b ∧ b ≠ bx) ∧ b < wz.heap.size) ∨ (wz.heap.size ≤ b ∧ b < wz.heap.size) := h6; omega) (by omega) (by unfold maxLen; omega) ?_); intro a8 c8 w8 hF8 hb8 hr8)
            have hBn : Below w.heap.size w w8 := (hb6.alloc (by omega) _).trans (hb8 w.heap.size (by simp; omega) (fun b h _ => h.1))
            have hFn : Fresh w.heap.size w8.heap.size w8 [.slice a8 (ol.length + 1) c8] (ol ++ [(⟨4, d, p, [], []⟩ : Change)]) := by
              refine hF8.fresh (fun b h hl => ⟨?_, hl⟩)
              rcases h with h | h | h
              · exact h.1
              · have h8 : ((wo.heap.size ≤ b ∧ b ≠ bx) ∧ b < wz.heap.size) ∨ (wz.heap.size ≤ b ∧ b < wz.heap.size) := h
                omega
              · simp at h; omega
            go_roundw
            case rel => exact ⟨⟨k + 1, _, by omega, by go_num, by simp; omega, hFn, HN.out⟩, hBn⟩
            case measure => simp [intOf] <;> omega
      · have HE := Lib.hid (backM_end HA.out hlt)
        go_wp2
        go_ret
        exact ⟨_, rfl, by rw [HE.out]; exact hF, hb⟩
end Go.Proofs.YtlaklnpdnohofaaGreatDoor
