/-
  Walks: a patch and changes taken back, as the program has it. / Walks: a patch taken back, as the reference has it.
-/
import Derived.Test.YtlaklnpdnohofaaGreatDoorVD1
import Derived.Test.YtlaklnpdnohofaaGreatDoorVCK
import Derived.Test.YtlaklnpdnohofaaGreatDoorWCopy
import Derived.Test.YtlaklnpdnohofaaGreatDoorVFS
import Derived.Test.YtlaklnpdnohofaaGreatDoorVCH
import Derived.Deep.RegionHeld3
import Derived.Test.YtlaklnpdnohofaaGreatDoorVCP
set_option linter.unusedVariables false
namespace Go.Vc
open Go.RowKit
theorem cell_allocB {w : World} {p : Addr} {u : Value} (h : w.cell? p = some u) (o : Obj) : (w.alloc o).cell? p = some u :=
  (World.cell?_of_block (Below.heap_alloc w o p.block (World.block_lt_of_cell? w p h))).trans h
theorem patch_bounds {d : List Hunk} (h : patchB d = true) {i : Nat} (hi : i < d.length) : 0 ≤ d[i].at_ ∧ d[i].at_ ≤ 10 ∧ d[i].less.length ≤ 10 ∧ d[i].more.length ≤ 10 := by
  have := patch_at h hi
  exact ⟨this.1, this.2.1, text_len10 this.2.2.1, text_len10 this.2.2.2.1⟩
end Go.Vc
namespace Go.Proofs.YtlaklnpdnohofaaGreatDoor
open Go.RowKit Go.Vc
open Go.Vc.Rep (rd)
open Go.Vc.Own (own)
set_option maxHeartbeats 16000000 in
set_option maxRecDepth 100000 in
theorem implBack {S : Nat → Prop} (v : Value) (d : List Hunk) (w : World) (hv : rd S w [v] d) (hp : patchB d = true) :
    Calls Tryz.prog 47 #[v] w fun e w' => ∃ v', e = .returned v' ∧ Fresh w.heap.size w'.heap.size w' [v'] (backF d 0) ∧ Below w.heap.size w w' := by
  obtain ⟨a1, cap1, rfl, hs⟩ := rd_slice_elim (Rep.lt hv)
  have hld := patch_len hp
  have HPB := Lib.hid (fun (i : Nat) (hi : i < d.length) => patch_bounds hp hi)
  obtain ⟨D, hD⟩ : ∃ D, D = backF d 0 := ⟨_, rfl⟩
  have HD : Hid (D = [] ++ backF (d.drop 0) 0) := hD
  rw [← hD]
  clear hv hD hp
  go_enter Tryz.func47, Tryz.ntmps47
  go_wp2
  go_loopw [3, 4, 9] (fun out by_ i wr => (∃ (k : Nat) (ol : List Hunk) (acc : Int), k ≤ d.length ∧ i = .int .i64 k ∧ by_ = .int .i64 acc ∧ -(10 * (k : Int)) ≤ acc ∧ acc ≤ 10 * (k : Int) ∧ ol.length ≤ k ∧ Fresh w.heap.size wr.heap.size wr [out] ol ∧ Hid (D = ol ++ backF (d.drop k) acc)) ∧ Below w.heap.size w wr) (fun _ _ i _ => d.length - (intOf i).toNat)
  case atStart => exact ⟨⟨0, [], 0, by omega, rfl, rfl, by omega, by omega, by simp, Fresh.nil _ _ _ (by decide), HD.out⟩, Below.refl _ _⟩
  case round =>
    obtain ⟨⟨k, ol, acc, hk, rfl, rfl, hc1, hc2, hol, hF, HA⟩, hb⟩ := hrel
    obtain ⟨wx, hwx⟩ : ∃ wx : World, wx = wr := ⟨_, rfl⟩
    subst hwx
    obtain ⟨ao, co, hvo, _⟩ := hF.shape
    subst hvo
    have hsx := hb.size
    by_cases hlt : k < d.length
    · obtain ⟨g, off, b1, c1, b2, c2, hag, q0, q1, q2, hi0, hl1, hl2⟩ := (hs.keep hb).hunk hlt
      subst hag
      have hpy := HPB.out k hlt
      have HP := Lib.hid (fun (acc' : Int) h => backF_put (acc' := acc') HA.out hlt h)
      obtain ⟨y, hy⟩ : ∃ y, y = d[k] := ⟨_, rfl⟩
      rw [← hy] at q0 q1 q2 hi0 hl1 hl2 hpy HP
      obtain ⟨wb, hwb⟩ : ∃ wb, wb = wx.alloc (.cells #[.int .i64 y.at_, .slice b1 y.less.length c1, .slice b2 y.more.length c2] 115) := ⟨_, rfl⟩
      obtain ⟨hB0, hsb, hq⟩ := boxed (vs := [.int .i64 y.at_, .slice b1 y.less.length c1, .slice b2 y.more.length c2]) hwb
      have p0 := hq 0 _ rfl
      have p1 := hq 1 _ rfl
      have p2 := hq 2 _ rfl
      have HWB := Lib.hid hwb
      have hsb1 : wx.heap.size < wb.heap.size := by omega
      have hb0 := hb.trans (hB0.mono hsx)
      have hl1 := hl1.keep (hB0.mono hsx)
      have hl2 := hl2.keep (hB0.mono hsx)
      have hFb : FS (fun b => w.heap.size ≤ b ∧ b < wx.heap.size) wb [.slice ao ol.length co] ol := hF.fs.keep (fun b hb _ => hB0.block b hb.2)
      have hlr := hl1.rd
      have hmr := hl2.rd
      have hsw := hb0.size
      have hi9 : I64 (y.at_ + acc) := by unfold I64; omega
      have ew : IntKind.i64.wrap (y.at_ + acc) = y.at_ + acc := IntWalk.i64_in _ (by omega)
      have es : IntKind.i64.wrap ((y.more.length : Int) - (y.less.length : Int)) = (y.more.length : Int) - (y.less.length : Int) := IntWalk.i64_in _ (by omega)
      have ea : IntKind.i64.wrap (acc + ((y.more.length : Int) - (y.less.length : Int))) = acc + ((y.more.length : Int) - (y.less.length : Int)) := IntWalk.i64_in _ (by omega)
      have HP2 := Lib.hid (HP.out (acc + ((y.more.length : Int) - (y.less.length : Int))) (by omega))
      have K0 := And.intro p0 (And.intro p1 p2)
      have hyl : y.less.length ≤ 10 := by omega
      have hym : y.more.length ≤ 10 := by omega
      clear p0 p1 p2 HA hF hl1 hl2 hq hwb hsb hy hi0 HP
      go_wp2_with fail
      rw [← HWB.out]
      clear q0 q1 q2
      go_region_held3 (fun w' => w'.cell? ⟨wx.heap.size, 0, none⟩ = some (.int .i64 y.at_) ∧ w'.cell? ⟨wx.heap.size, 1, none⟩ = some (.slice b1 y.less.length c1) ∧ w'.cell? ⟨wx.heap.size, 2, none⟩ = some (.slice b2 y.more.length c2))
        (first | exact K9 | exact ⟨cell_allocB KB.1 _, cell_allocB KB.2.1 _, cell_allocB KB.2.2 _⟩ | exact KB | exact KA | exact K0 | go_keep)
        (first
          | (go_at_call 46; (with_reducible refine (copyText_any _ y.more _ (Rep.drew hmr) (by omega)).mono ?_); rintro e wA ⟨aA, cA, rfl, hA, hbA⟩; have hszA : wb.heap.size ≤ wA.heap.size := hbA.size; have hlrA := Rep.keep (Rep.drew hlr) (hbA.mono hsw); have KA := And.intro (keepc (show wb.drew.cell? ⟨wx.heap.size, 0, none⟩ = some (.int .i64 y.at_) from K0.1) hbA) (And.intro (keepc (show wb.drew.cell? ⟨wx.heap.size, 1, none⟩ = some (.slice b1 y.less.length c1) from K0.2.1) hbA) (keepc (show wb.drew.cell? ⟨wx.heap.size, 2, none⟩ = some (.slice b2 y.more.length c2) from K0.2.2) hbA)))
          | (go_at_call 46; (with_reducible refine (copyText_any _ y.less _ hlrA (by omega)).mono ?_); rintro e wB ⟨aB, cB, rfl, hB, hbB⟩; have hszB := hbB.size; have KB := And.intro (keepc KA.1 hbB) (And.intro (keepc KA.2.1 hbB) (keepc KA.2.2 hbB)))
          | (refine step_app_oneS slz_hunk.slt rfl (.tmp 13) (.tmp 25) rfl rfl (((hFb.drew.below hbA (fun b hb hl => hl)).below hbB (fun b hb hl => hl)).alloc _) rfl (heap_alloc_new _ _) (Fresh.hunk (p := ⟨y.at_ + acc, y.more, y.less⟩) hi9 ((hA.below (Nat.le_refl _) hbB).alloc _) (hB.alloc _) hszA hszB).fs (fun b (h3 : w.heap.size ≤ b ∧ b < wx.heap.size) h4 _ => by have h5 : wb.heap.size ≤ b := h4.1; omega) (by omega) (by unfold maxLen; omega) ?_; intro a9 c9 w9 hF9 hb99 hr99; have hr0 := hr99 wx.heap.size (by simp; omega) (by intro (h : w.heap.size ≤ wx.heap.size ∧ wx.heap.size < wx.heap.size); omega); have K9 := And.intro ((World.cell?_of_block hr0).trans (cell_allocB KB.1 _)) (And.intro ((World.cell?_of_block hr0).trans (cell_allocB KB.2.1 _)) ((World.cell?_of_block hr0).trans (cell_allocB KB.2.2 _)))))
      all_goals
        have hzA : wb.heap.size ≤ wA.heap.size := hszA
        have hBn : Below w.heap.size w w9 := (((hb0.drew.trans (hbA.mono (by simp <;> omega))).trans (hbB.mono (by omega))).alloc (by omega) _).trans (hb99 w.heap.size (by simp; omega) (fun b h _ => h.1))
        have hFn : Fresh w.heap.size w9.heap.size w9 [.slice a9 (ol.length + 1) c9] (ol ++ [(⟨y.at_ + acc, y.more, y.less⟩ : Hunk)]) := by
          refine hF9.fresh (fun b h hl => ⟨?_, hl⟩)
          rcases h with h | h | h
          · exact h.1
          · have h5 : wb.heap.size ≤ b := h.1
            omega
          · simp at h; omega
        have y1 := K9.2.1
        have y2 := K9.2.2
        clear hF9 hb99 hr99 hr0 K9 KA KB K0 hA hB hbA hbB hlrA
        go_wp2
        go_roundw
        case rel => exact ⟨⟨k + 1, ol ++ [(⟨y.at_ + acc, y.more, y.less⟩ : Hunk)], acc + ((y.more.length : Int) - (y.less.length : Int)), by omega, by go_num, rfl, by omega, by omega, by simp; omega, hFn, HP2.out⟩, hBn⟩
        case measure => simp [intOf] <;> omega
    · have HE := Lib.hid (backF_end HA.out hlt)
      go_wp2
      go_ret
      exact ⟨_, rfl, by rw [HE.out]; exact hF, hb⟩
set_option maxHeartbeats 16000000 in
set_option maxRecDepth 100000 in
theorem implChangesBack {S : Nat → Prop} (v : Value) (l : List Change) (w : World) (hv : rd S w [v] l) (hS : ∀ c, c ∈ l → ShortS c.path ∧ ShortS c.dst) (hM : ML w) :
    Calls Tryz.prog 10 #[v] w fun e w' => ∃ v', e = .returned v' ∧ Fresh w.heap.size w'.heap.size w' [v'] (changesBack l) ∧ Below w.heap.size w w' := by
  obtain ⟨a1, cap1, rfl, hs⟩ := rd_slice_elim (Rep.lt hv)
  cases hcb : changesB l with
  | false =>
    have HR := Lib.hid (show changesBack l = [] by unfold changesBack; rw [if_neg (by rw [hcb]; simp)])
    go_enter Tryz.func10, Tryz.ntmps10
    go_wp2_with fail
    refine (changesOk_is _ l _ hs.rd hS hM hcb).mono ?_
    rintro e w1 ⟨rfl, hb1⟩
    go_wp2
    go_ret
    exact ⟨.slice none 0 0, rfl, by rw [HR.out]; exact Fresh.nil _ _ _ (by decide), hb1⟩
  | true =>
    obtain ⟨l1, l2, l3⟩ := (changesB_iff l).1 hcb
    obtain ⟨D, hD⟩ : ∃ D, D = changesBack l := ⟨_, rfl⟩
    have HD : Hid (D = [] ++ (l.drop 0).map backC) := by show _ = _; rw [hD]; unfold changesBack; rw [if_pos hcb]; rfl
    rw [← hD]
    clear hv hD l3
    go_enter Tryz.func10, Tryz.ntmps10
    go_wp2_with fail
    refine (changesOk_is _ l _ hs.rd hS hM hcb).mono ?_
    rintro e w1 ⟨rfl, hW⟩
    have hsW := hW.size
    clear hcb hM hS
    go_wp2
    go_loopw [3, 12] (fun out i wr => (∃ (k : Nat) (ol : List Change), k ≤ l.length ∧ i = .int .i64 k ∧ ol.length ≤ k ∧ Fresh w1.heap.size wr.heap.size wr [out] ol ∧ Hid (D = ol ++ (l.drop k).map backC)) ∧ Below w1.heap.size w1 wr) (fun _ i _ => l.length - (intOf i).toNat)
    case atStart => exact ⟨⟨0, [], by omega, rfl, by simp, Fresh.nil _ _ _ (by decide), HD.out⟩, Below.refl _ _⟩
    case round =>
      obtain ⟨⟨k, ol, hk, rfl, hol, hF, HA⟩, hb⟩ := hrel
      obtain ⟨wx, hwx⟩ : ∃ wx : World, wx = wr := ⟨_, rfl⟩
      subst hwx
      obtain ⟨ao, co, hvo, _⟩ := hF.shape
      subst hvo
      have hsx := hb.size
      have hBx := hW.trans (hb.mono hsW)
      clear HD
      by_cases hlt : k < l.length
      · obtain ⟨g, off, a3, c3, a4, c4, hag, e0, e1, e2, e3, e4, hi0, hz1, hz2, h3, h4⟩ := (hs.keep hBx).change hlt
        subst hag
        have hcf := changeB_form (l2 l[k] (List.getElem_mem hlt))
        have HN := Lib.hid (backM_next HA.out hlt)
        obtain ⟨c, hc⟩ : ∃ c, c = l[k] := ⟨_, rfl⟩
        rw [← hc] at e0 e1 e2 e3 e4 hi0 hz1 hz2 h3 h4 hcf HN
        clear hc HA
        rcases hcf with ⟨p, x, rfl, _, hx⟩ | ⟨p, x, rfl, _, hx⟩ | ⟨p, pt, rfl, _, _, hx⟩ | ⟨p, q, rfl, _, _, _⟩
        · dsimp only at e0 e1 e2 e3 e4 hi0 hz1 hz2 h3 h4 HN
          rw [backC_1] at HN
          rw [show (([] : List Hunk).length) = 0 from rfl] at e4
          have hx10 := text_len10 hx
          obtain ⟨wb, hwb⟩ : ∃ wb, wb = wx.alloc (.cells #[.int .i64 1, .string p, .string ⟨#[]⟩, .slice a3 x.length c3, .slice a4 0 c4] 69) := ⟨_, rfl⟩
          obtain ⟨wc, hwc⟩ : ∃ wc, wc = wb.alloc (.cells #[.int .i64 1, .string p, .string ⟨#[]⟩, .slice none 0 0, .slice none 0 0] 69) := ⟨_, rfl⟩
          obtain ⟨hB1, hsb, hq⟩ := boxed (vs := [.int .i64 1, .string p, .string ⟨#[]⟩, .slice a3 x.length c3, .slice a4 0 c4]) hwb
          have q0 := hq 0 _ rfl
          have q1 := hq 1 _ rfl
          have q2 := hq 2 _ rfl
          have q3 := hq 3 _ rfl
          have q4 := hq 4 _ rfl
          have hbx : wc.heap[wx.heap.size + 1]? = some (.cells #[.int .i64 1, .string p, .string ⟨#[]⟩, .slice none 0 0, .slice none 0 0] 69 (0, 0)) := by rw [hwc, hwb]; exact heap_new_at (by simp)
          have hB2 : Below wb.heap.size wb wc := by rw [hwc]; exact (Below.refl _ _).alloc (Nat.le_refl _) _
          have hBc := hB1.trans (hB2.mono hB1.size)
          have hlc : wx.heap.size + 1 < wc.heap.size := (Array.getElem?_eq_some_iff.1 hbx).1
          have q0 := keepc q0 hB2
          have q1 := keepc q1 hB2
          have q2 := keepc q2 hB2
          have q3 := keepc q3 hB2
          have q4 := keepc q4 hB2
          have hbc := hb.trans (hBc.mono hsx)
          have hBBc := hBx.trans (hBc.mono hBx.size)
          have h3c := h3.keep (hBc.mono hBx.size)
          have h4c := h4.keep (hBc.mono hBx.size)
          have hFb : FS (fun b => w1.heap.size ≤ b ∧ b < wx.heap.size) wc [.slice ao ol.length co] ol := hF.fs.keep (fun b hb _ => hBc.block b hb.2)
          have HWB := Lib.hid hwb
          have HWC := Lib.hid hwc
          clear hwb hwc hq hF h3 h4
          go_wp2_with fail
          rw [← HWB.out, ← HWC.out]
          clear e0 e1 e2 e3 e4
          refine (copyText_any _ x _ h3c.rd (by omega)).mono ?_
          rintro e w4 ⟨a9, c9, rfl, hY, hb4⟩
          have hs4 := hb4.size
          have hbx4 := (hb4.block _ hlc).trans hbx
          have x0 := cell_of_row w4 (wx.heap.size + 1) 0 _ _ (0, 0) hbx4
          have x1 := cell_of_row w4 (wx.heap.size + 1) 1 _ _ (0, 0) hbx4
          have x2 := cell_of_row w4 (wx.heap.size + 1) 2 _ _ (0, 0) hbx4
          have x3 := cell_of_row w4 (wx.heap.size + 1) 3 _ _ (0, 0) hbx4
          have x4 := cell_of_row w4 (wx.heap.size + 1) 4 _ _ (0, 0) hbx4
          have z0 := frozen_of_row w4 (wx.heap.size + 1) 0 _ _ hbx4
          have z1 := frozen_of_row w4 (wx.heap.size + 1) 1 _ _ hbx4
          have z2 := frozen_of_row w4 (wx.heap.size + 1) 2 _ _ hbx4
          have z3 := frozen_of_row w4 (wx.heap.size + 1) 3 _ _ hbx4
          have z4 := frozen_of_row w4 (wx.heap.size + 1) 4 _ _ hbx4
          simp at x0 x1 x2 x3 x4
          obtain ⟨w5, hw5⟩ : ∃ w5, w5 = ((w4.setCell ⟨wx.heap.size + 1, 0, none⟩ (.int .i64 2)).setCell ⟨wx.heap.size + 1, 3, none⟩ (.slice a9 x.length c9)) := ⟨_, rfl⟩
          have hs5 : w5.heap.size = w4.heap.size := by rw [hw5]; simp [World.setCell]
          have hb5 : Below w1.heap.size w1 w5 := by rw [hw5]; exact ((hbc.trans (hb4.mono hbc.size)).setCell (by show w1.heap.size ≤ wx.heap.size + 1; omega) _).setCell (by show w1.heap.size ≤ wx.heap.size + 1; omega) _
          have hF5 : FS (fun b => w1.heap.size ≤ b ∧ b < wx.heap.size) w5 [.slice ao ol.length co] ol := by
            rw [hw5]
            refine FS.keep (w := w4) (hFb.below hb4 (fun b h _ => by have := h.2; omega)) (fun b h _ => ?_)
            have hne : b ≠ wx.heap.size + 1 := by have := h.2; omega
            exact (Below.heap_setCell _ _ _ b hne).trans (Below.heap_setCell _ _ _ b hne)
          have hY5 : Fresh wc.heap.size w4.heap.size w5 [.slice a9 x.length c9] x := by rw [hw5]; exact ((hY).setCell (.inl (by show wx.heap.size + 1 < wc.heap.size; omega))).setCell (.inl (by show wx.heap.size + 1 < wc.heap.size; omega))
          have HW5 := Lib.hid hw5
          clear hw5 hbx4 hbx hY hb4 hFb
          go_wp2_with (at_builtin; rw [← HW5.out]; (refine wpList_app_oneS slz_change.slt rfl (.tmp 49) (.tmp 51) rfl rfl (hF5.alloc _) rfl (by first | exact heap_new_at hs5.symm | exact heap_alloc_new _ _ | exact heap_new_at (by simp [hs5])) (Fresh.change (p := ⟨2, p, ⟨#[]⟩, x, []⟩) (show I64 2 by unfold I64; omega) (by show _ ≤ maxLen; exact hz1) (by show _ ≤ maxLen; exact hz2) (hY5.alloc _) (Fresh.nil _ w4.heap.size _ (by decide)) (by omega) (Nat.le_refl _)).fs (fun b (h5 : w1.heap.size ≤ b ∧ b < wx.heap.size) h6 _ => by have h7 : wc.heap.size ≤ b := h6.1; omega) (by omega) (by unfold maxLen; omega) ?_); intro a8 c8 w8 hF8 hb8 hr8)
          have hBn : Below w1.heap.size w1 w8 := (hb5.alloc (by omega) _).trans (hb8 w1.heap.size (by simp; omega) (fun b h _ => h.1))
          have hFn : Fresh w1.heap.size w8.heap.size w8 [.slice a8 (ol.length + 1) c8] (ol ++ [(⟨2, p, ⟨#[]⟩, x, []⟩ : Change)]) := by
            refine hF8.fresh (fun b h hl => ⟨?_, hl⟩)
            rcases h with h | h | h
            · exact h.1
            · have h7 : wc.heap.size ≤ b := h.1
              omega
            · simp at h; omega
          go_roundw
          case rel => exact ⟨⟨k + 1, _, by omega, by go_num, by simp; omega, hFn, HN.out⟩, hBn⟩
          case measure => simp [intOf] <;> omega
        · dsimp only at e0 e1 e2 e3 e4 hi0 hz1 hz2 h3 h4 HN
          rw [backC_2] at HN
          rw [show (([] : List Hunk).length) = 0 from rfl] at e4
          have hx10 := text_len10 hx
          obtain ⟨wb, hwb⟩ : ∃ wb, wb = wx.alloc (.cells #[.int .i64 2, .string p, .string ⟨#[]⟩, .slice a3 x.length c3, .slice a4 0 c4] 69) := ⟨_, rfl⟩
          obtain ⟨wc, hwc⟩ : ∃ wc, wc = wb.alloc (.cells #[.int .i64 2, .string p, .string ⟨#[]⟩, .slice none 0 0, .slice none 0 0] 69) := ⟨_, rfl⟩
          obtain ⟨hB1, hsb, hq⟩ := boxed (vs := [.int .i64 2, .string p, .string ⟨#[]⟩, .slice a3 x.length c3, .slice a4 0 c4]) hwb
          have q0 := hq 0 _ rfl
          have q1 := hq 1 _ rfl
          have q2 := hq 2 _ rfl
          have q3 := hq 3 _ rfl
          have q4 := hq 4 _ rfl
          have hbx : wc.heap[wx.heap.size + 1]? = some (.cells #[.int .i64 2, .string p, .string ⟨#[]⟩, .slice none 0 0, .slice none 0 0] 69 (0, 0)) := by rw [hwc, hwb]; exact heap_new_at (by simp)
          have hB2 : Below wb.heap.size wb wc := by rw [hwc]; exact (Below.refl _ _).alloc (Nat.le_refl _) _
          have hBc := hB1.trans (hB2.mono hB1.size)
          have hlc : wx.heap.size + 1 < wc.heap.size := (Array.getElem?_eq_some_iff.1 hbx).1
          have q0 := keepc q0 hB2
          have q1 := keepc q1 hB2
          have q2 := keepc q2 hB2
          have q3 := keepc q3 hB2
          have q4 := keepc q4 hB2
          have hbc := hb.trans (hBc.mono hsx)
          have hBBc := hBx.trans (hBc.mono hBx.size)
          have h3c := h3.keep (hBc.mono hBx.size)
          have h4c := h4.keep (hBc.mono hBx.size)
          have hFb : FS (fun b => w1.heap.size ≤ b ∧ b < wx.heap.size) wc [.slice ao ol.length co] ol := hF.fs.keep (fun b hb _ => hBc.block b hb.2)
          have HWB := Lib.hid hwb
          have HWC := Lib.hid hwc
          clear hwb hwc hq hF h3 h4
          go_wp2_with fail
          rw [← HWB.out, ← HWC.out]
          clear e0 e1 e2 e3 e4
          refine (copyText_any _ x _ h3c.rd (by omega)).mono ?_
          rintro e w4 ⟨a9, c9, rfl, hY, hb4⟩
          have hs4 := hb4.size
          have hbx4 := (hb4.block _ hlc).trans hbx
          have x0 := cell_of_row w4 (wx.heap.size + 1) 0 _ _ (0, 0) hbx4
          have x1 := cell_of_row w4 (wx.heap.size + 1) 1 _ _ (0, 0) hbx4
          have x2 := cell_of_row w4 (wx.heap.size + 1) 2 _ _ (0, 0) hbx4
          have x3 := cell_of_row w4 (wx.heap.size + 1) 3 _ _ (0, 0) hbx4
          have x4 := cell_of_row w4 (wx.heap.size + 1) 4 _ _ (0, 0) hbx4
          have z0 := frozen_of_row w4 (wx.heap.size + 1) 0 _ _ hbx4
          have z1 := frozen_of_row w4 (wx.heap.size + 1) 1 _ _ hbx4
          have z2 := frozen_of_row w4 (wx.heap.size + 1) 2 _ _ hbx4
          have z3 := frozen_of_row w4 (wx.heap.size + 1) 3 _ _ hbx4
          have z4 := frozen_of_row w4 (wx.heap.size + 1) 4 _ _ hbx4
          simp at x0 x1 x2 x3 x4
          obtain ⟨w5, hw5⟩ : ∃ w5, w5 = ((w4.setCell ⟨wx.heap.size + 1, 0, none⟩ (.int .i64 1)).setCell ⟨wx.heap.size + 1, 3, none⟩ (.slice a9 x.length c9)) := ⟨_, rfl⟩
          have hs5 : w5.heap.size = w4.heap.size := by rw [hw5]; simp [World.setCell]
          have hb5 : Below w1.heap.size w1 w5 := by rw [hw5]; exact ((hbc.trans (hb4.mono hbc.size)).setCell (by show w1.heap.size ≤ wx.heap.size + 1; omega) _).setCell (by show w1.heap.size ≤ wx.heap.size + 1; omega) _
          have hF5 : FS (fun b => w1.heap.size ≤ b ∧ b < wx.heap.size) w5 [.slice ao ol.length co] ol := by
            rw [hw5]
            refine FS.keep (w := w4) (hFb.below hb4 (fun b h _ => by have := h.2; omega)) (fun b h _ => ?_)
            have hne : b ≠ wx.heap.size + 1 := by have := h.2; omega
            exact (Below.heap_setCell _ _ _ b hne).trans (Below.heap_setCell _ _ _ b hne)
          have hY5 : Fresh wc.heap.size w4.heap.size w5 [.slice a9 x.length c9] x := by rw [hw5]; exact ((hY).setCell (.inl (by show wx.heap.size + 1 < wc.heap.size; omega))).setCell (.inl (by show wx.heap.size + 1 < wc.heap.size; omega))
          have HW5 := Lib.hid hw5
          clear hw5 hbx4 hbx hY hb4 hFb
          go_wp2_with (at_builtin; rw [← HW5.out]; (refine wpList_app_oneS slz_change.slt rfl (.tmp 49) (.tmp 51) rfl rfl (hF5.alloc _) rfl (by first | exact heap_new_at hs5.symm | exact heap_alloc_new _ _ | exact heap_new_at (by simp [hs5])) (Fresh.change (p := ⟨1, p, ⟨#[]⟩, x, []⟩) (show I64 1 by unfold I64; omega) (by show _ ≤ maxLen; exact hz1) (by show _ ≤ maxLen; exact hz2) (hY5.alloc _) (Fresh.nil _ w4.heap.size _ (by decide)) (by omega) (Nat.le_refl _)).fs (fun b (h5 : w1.heap.size ≤ b ∧ b < wx.heap.size) h6 _ => by have h7 : wc.heap.size ≤ b := h6.1; omega) (by omega) (by unfold maxLen; omega) ?_); intro a8 c8 w8 hF8 hb8 hr8)
          have hBn : Below w1.heap.size w1 w8 := (hb5.alloc (by omega) _).trans (hb8 w1.heap.size (by simp; omega) (fun b h _ => h.1))
          have hFn : Fresh w1.heap.size w8.heap.size w8 [.slice a8 (ol.length + 1) c8] (ol ++ [(⟨1, p, ⟨#[]⟩, x, []⟩ : Change)]) := by
            refine hF8.fresh (fun b h hl => ⟨?_, hl⟩)
            rcases h with h | h | h
            · exact h.1
            · have h7 : wc.heap.size ≤ b := h.1
              omega
            · simp at h; omega
          go_roundw
          case rel => exact ⟨⟨k + 1, _, by omega, by go_num, by simp; omega, hFn, HN.out⟩, hBn⟩
          case measure => simp [intOf] <;> omega
        · dsimp only at e0 e1 e2 e3 e4 hi0 hz1 hz2 h3 h4 HN
          rw [backC_3] at HN
          rw [show (([] : List ByteArray).length) = 0 from rfl] at e3
          obtain ⟨wb, hwb⟩ : ∃ wb, wb = wx.alloc (.cells #[.int .i64 3, .string p, .string ⟨#[]⟩, .slice a3 0 c3, .slice a4 pt.length c4] 69) := ⟨_, rfl⟩
          obtain ⟨wc, hwc⟩ : ∃ wc, wc = wb.alloc (.cells #[.int .i64 3, .string p, .string ⟨#[]⟩, .slice none 0 0, .slice none 0 0] 69) := ⟨_, rfl⟩
          obtain ⟨hB1, hsb, hq⟩ := boxed (vs := [.int .i64 3, .string p, .string ⟨#[]⟩, .slice a3 0 c3, .slice a4 pt.length c4]) hwb
          have q0 := hq 0 _ rfl
          have q1 := hq 1 _ rfl
          have q2 := hq 2 _ rfl
          have q3 := hq 3 _ rfl
          have q4 := hq 4 _ rfl
          have hbx : wc.heap[wx.heap.size + 1]? = some (.cells #[.int .i64 3, .string p, .string ⟨#[]⟩, .slice none 0 0, .slice none 0 0] 69 (0, 0)) := by rw [hwc, hwb]; exact heap_new_at (by simp)
          have hB2 : Below wb.heap.size wb wc := by rw [hwc]; exact (Below.refl _ _).alloc (Nat.le_refl _) _
          have hBc := hB1.trans (hB2.mono hB1.size)
          have hlc : wx.heap.size + 1 < wc.heap.size := (Array.getElem?_eq_some_iff.1 hbx).1
          have q0 := keepc q0 hB2
          have q1 := keepc q1 hB2
          have q2 := keepc q2 hB2
          have q3 := keepc q3 hB2
          have q4 := keepc q4 hB2
          have hbc := hb.trans (hBc.mono hsx)
          have hBBc := hBx.trans (hBc.mono hBx.size)
          have h3c := h3.keep (hBc.mono hBx.size)
          have h4c := h4.keep (hBc.mono hBx.size)
          have hFb : FS (fun b => w1.heap.size ≤ b ∧ b < wx.heap.size) wc [.slice ao ol.length co] ol := hF.fs.keep (fun b hb _ => hBc.block b hb.2)
          have HWB := Lib.hid hwb
          have HWC := Lib.hid hwc
          clear hwb hwc hq hF h3 h4
          go_wp2_with fail
          rw [← HWB.out, ← HWC.out]
          clear e0 e1 e2 e3 e4
          refine (implBack _ pt _ h4c.rd hx).mono ?_
          rintro e w4 ⟨v9, rfl, hY, hb4⟩
          obtain ⟨a9, c9, hv9, _⟩ := hY.shape
          subst hv9
          have hbl : (backF pt 0).length ≤ 1000 := by rw [backF_len]; have := patch_len hx; omega
          have hs4 := hb4.size
          have hbx4 := (hb4.block _ hlc).trans hbx
          have x0 := cell_of_row w4 (wx.heap.size + 1) 0 _ _ (0, 0) hbx4
          have x1 := cell_of_row w4 (wx.heap.size + 1) 1 _ _ (0, 0) hbx4
          have x2 := cell_of_row w4 (wx.heap.size + 1) 2 _ _ (0, 0) hbx4
          have x3 := cell_of_row w4 (wx.heap.size + 1) 3 _ _ (0, 0) hbx4
          have x4 := cell_of_row w4 (wx.heap.size + 1) 4 _ _ (0, 0) hbx4
          have z0 := frozen_of_row w4 (wx.heap.size + 1) 0 _ _ hbx4
          have z1 := frozen_of_row w4 (wx.heap.size + 1) 1 _ _ hbx4
          have z2 := frozen_of_row w4 (wx.heap.size + 1) 2 _ _ hbx4
          have z3 := frozen_of_row w4 (wx.heap.size + 1) 3 _ _ hbx4
          have z4 := frozen_of_row w4 (wx.heap.size + 1) 4 _ _ hbx4
          simp at x0 x1 x2 x3 x4
          obtain ⟨w5, hw5⟩ : ∃ w5, w5 = (w4.setCell ⟨wx.heap.size + 1, 4, none⟩ (.slice a9 (backF pt 0).length c9)) := ⟨_, rfl⟩
          have hs5 : w5.heap.size = w4.heap.size := by rw [hw5]; simp [World.setCell]
          have hb5 : Below w1.heap.size w1 w5 := by rw [hw5]; exact (hbc.trans (hb4.mono hbc.size)).setCell (by show w1.heap.size ≤ wx.heap.size + 1; omega) _
          have hF5 : FS (fun b => w1.heap.size ≤ b ∧ b < wx.heap.size) w5 [.slice ao ol.length co] ol := by
            rw [hw5]
            refine FS.keep (w := w4) (hFb.below hb4 (fun b h _ => by have := h.2; omega)) (fun b h _ => ?_)
            have hne : b ≠ wx.heap.size + 1 := by have := h.2; omega
            exact Below.heap_setCell _ _ _ b hne
          have hY5 : Fresh wc.heap.size w4.heap.size w5 [.slice a9 (backF pt 0).length c9] (backF pt 0) := by rw [hw5]; exact (hY).setCell (.inl (by show wx.heap.size + 1 < wc.heap.size; omega))
          have HW5 := Lib.hid hw5
          clear hw5 hbx4 hbx hY hb4 hFb
          go_wp2_with (at_builtin; rw [← HW5.out]; (refine wpList_app_oneS slz_change.slt rfl (.tmp 49) (.tmp 51) rfl rfl (hF5.alloc _) rfl (by first | exact heap_new_at hs5.symm | exact heap_alloc_new _ _ | exact heap_new_at (by simp [hs5])) (Fresh.change (p := ⟨3, p, ⟨#[]⟩, [], (backF pt 0)⟩) (show I64 3 by unfold I64; omega) (by show _ ≤ maxLen; exact hz1) (by show _ ≤ maxLen; exact hz2) (Fresh.nil wc.heap.size wc.heap.size _ (by decide)) (hY5.alloc _) (Nat.le_refl _) (by omega)).fs (fun b (h5 : w1.heap.size ≤ b ∧ b < wx.heap.size) h6 _ => by have h7 : wc.heap.size ≤ b := h6.1; omega) (by omega) (by unfold maxLen; omega) ?_); intro a8 c8 w8 hF8 hb8 hr8)
          have hBn : Below w1.heap.size w1 w8 := (hb5.alloc (by omega) _).trans (hb8 w1.heap.size (by simp; omega) (fun b h _ => h.1))
          have hFn : Fresh w1.heap.size w8.heap.size w8 [.slice a8 (ol.length + 1) c8] (ol ++ [(⟨3, p, ⟨#[]⟩, [], (backF pt 0)⟩ : Change)]) := by
            refine hF8.fresh (fun b h hl => ⟨?_, hl⟩)
            rcases h with h | h | h
            · exact h.1
            · have h7 : wc.heap.size ≤ b := h.1
              omega
            · simp at h; omega
          go_roundw
          case rel => exact ⟨⟨k + 1, _, by omega, by go_num, by simp; omega, hFn, HN.out⟩, hBn⟩
          case measure => simp [intOf] <;> omega
        · dsimp only at e0 e1 e2 e3 e4 hi0 hz1 hz2 h3 h4 HN
          rw [backC_4] at HN
          rw [show (([] : List ByteArray).length) = 0 from rfl] at e3
          rw [show (([] : List Hunk).length) = 0 from rfl] at e4
          obtain ⟨wb, hwb⟩ : ∃ wb, wb = wx.alloc (.cells #[.int .i64 4, .string p, .string q, .slice a3 0 c3, .slice a4 0 c4] 69) := ⟨_, rfl⟩
          obtain ⟨wc, hwc⟩ : ∃ wc, wc = wb.alloc (.cells #[.int .i64 4, .string p, .string ⟨#[]⟩, .slice none 0 0, .slice none 0 0] 69) := ⟨_, rfl⟩
          obtain ⟨hB1, hsb, hq⟩ := boxed (vs := [.int .i64 4, .string p, .string q, .slice a3 0 c3, .slice a4 0 c4]) hwb
          have q0 := hq 0 _ rfl
          have q1 := hq 1 _ rfl
          have q2 := hq 2 _ rfl
          have q3 := hq 3 _ rfl
          have q4 := hq 4 _ rfl
          have hbx : wc.heap[wx.heap.size + 1]? = some (.cells #[.int .i64 4, .string p, .string ⟨#[]⟩, .slice none 0 0, .slice none 0 0] 69 (0, 0)) := by rw [hwc, hwb]; exact heap_new_at (by simp)
          have hB2 : Below wb.heap.size wb wc := by rw [hwc]; exact (Below.refl _ _).alloc (Nat.le_refl _) _
          have hBc := hB1.trans (hB2.mono hB1.size)
          have hlc : wx.heap.size + 1 < wc.heap.size := (Array.getElem?_eq_some_iff.1 hbx).1
          have q0 := keepc q0 hB2
          have q1 := keepc q1 hB2
          have q2 := keepc q2 hB2
          have q3 := keepc q3 hB2
          have q4 := keepc q4 hB2
          have hbc := hb.trans (hBc.mono hsx)
          have hBBc := hBx.trans (hBc.mono hBx.size)
          have h3c := h3.keep (hBc.mono hBx.size)
          have h4c := h4.keep (hBc.mono hBx.size)
          have hFb : FS (fun b => w1.heap.size ≤ b ∧ b < wx.heap.size) wc [.slice ao ol.length co] ol := hF.fs.keep (fun b hb _ => hBc.block b hb.2)
          have HWB := Lib.hid hwb
          have HWC := Lib.hid hwc
          clear hwb hwc hq hF h3 h4
          have x0 := cell_of_row wc (wx.heap.size + 1) 0 _ _ (0, 0) hbx
          have x1 := cell_of_row wc (wx.heap.size + 1) 1 _ _ (0, 0) hbx
          have x2 := cell_of_row wc (wx.heap.size + 1) 2 _ _ (0, 0) hbx
          have x3 := cell_of_row wc (wx.heap.size + 1) 3 _ _ (0, 0) hbx
          have x4 := cell_of_row wc (wx.heap.size + 1) 4 _ _ (0, 0) hbx
          have z0 := frozen_of_row wc (wx.heap.size + 1) 0 _ _ hbx
          have z1 := frozen_of_row wc (wx.heap.size + 1) 1 _ _ hbx
          have z2 := frozen_of_row wc (wx.heap.size + 1) 2 _ _ hbx
          have z3 := frozen_of_row wc (wx.heap.size + 1) 3 _ _ hbx
          have z4 := frozen_of_row wc (wx.heap.size + 1) 4 _ _ hbx
          simp at x0 x1 x2 x3 x4
          have K0 := And.intro q1 q2
          go_wp2_with fail
          rw [← HWB.out, ← HWC.out]
          clear e0 e1 e2 e3 e4
          go_region_held3 (fun w' => w'.cell? ⟨wx.heap.size, 1, none⟩ = some (.string p) ∧ w'.cell? ⟨wx.heap.size, 2, none⟩ = some (.string q))
            (first | exact K0 | exact ⟨keepc K0.1 (((Below.refl _ _).drew).setCell (p := ⟨wx.heap.size + 1, 1, none⟩) (by show wc.heap.size ≤ _; omega) _), keepc K0.2 _⟩ | go_keep)
            (first | fail)

          obtain ⟨w5, hw5⟩ : ∃ w5, w5 = ((wc.setCell ⟨wx.heap.size + 1, 1, none⟩ (.string q)).setCell ⟨wx.heap.size + 1, 2, none⟩ (.string p)).drew := ⟨_, rfl⟩
          have hbx5 : w5.heap[wx.heap.size + 1]? = some (.cells #[.int .i64 4, .string q, .string p, .slice none 0 0, .slice none 0 0] 69 (0, 0)) := by rw [hw5]; exact heap_setCell_same _ _ 2 _ _ _ (heap_setCell_same _ _ 1 _ _ _ hbx)
          have hs5 : w5.heap.size = wc.heap.size := by rw [hw5]; simp [World.setCell]
          have hb5 : Below w1.heap.size w1 w5 := by rw [hw5]; exact Below.drew ((hbc.setCell (by show w1.heap.size ≤ wx.heap.size + 1; omega) _).setCell (by show w1.heap.size ≤ wx.heap.size + 1; omega) _)
          have hF5 : FS (fun b => w1.heap.size ≤ b ∧ b < wx.heap.size) w5 [.slice ao ol.length co] ol := by
            rw [hw5]
            refine FS.keep (w := wc) hFb (fun b h _ => ?_)
            have hne : b ≠ wx.heap.size + 1 := by have := h.2; omega
            exact (Below.heap_setCell _ _ _ b hne).trans (Below.heap_setCell _ _ _ b hne)
          rw [← hw5]
          clear hw5 x0 x1 x2 x3 x4 z0 z1 z2 z3 z4 q0 q1 q2 q3 q4 K0
          have x0 := cell_of_row w5 (wx.heap.size + 1) 0 _ _ (0, 0) hbx5
          have x1 := cell_of_row w5 (wx.heap.size + 1) 1 _ _ (0, 0) hbx5
          have x2 := cell_of_row w5 (wx.heap.size + 1) 2 _ _ (0, 0) hbx5
          have x3 := cell_of_row w5 (wx.heap.size + 1) 3 _ _ (0, 0) hbx5
          have x4 := cell_of_row w5 (wx.heap.size + 1) 4 _ _ (0, 0) hbx5
          simp at x0 x1 x2 x3 x4
          clear hbx hbx5 hFb
          go_wp2_with (at_builtin; (refine wpList_app_oneS slz_change.slt rfl (.tmp 49) (.tmp 51) rfl rfl (hF5.alloc _) rfl (by first | exact heap_new_at hs5.symm | exact heap_alloc_new _ _ | exact heap_new_at (by simp [hs5])) (Fresh.change (p := ⟨4, q, p, [], []⟩) (show I64 4 by unfold I64; omega) (by show _ ≤ maxLen; exact hz2) (by show _ ≤ maxLen; exact hz1) (Fresh.nil wc.heap.size wc.heap.size _ (by decide)) (Fresh.nil _ wc.heap.size _ (by decide)) (Nat.le_refl _) (Nat.le_refl _)).fs (fun b (h5 : w1.heap.size ≤ b ∧ b < wx.heap.size) h6 _ => by have h7 : wc.heap.size ≤ b := h6.1; omega) (by omega) (by unfold maxLen; omega) ?_); intro a8 c8 w8 hF8 hb8 hr8)
          have hBn : Below w1.heap.size w1 w8 := (hb5.alloc (by omega) _).trans (hb8 w1.heap.size (by simp; omega) (fun b h _ => h.1))
          have hFn : Fresh w1.heap.size w8.heap.size w8 [.slice a8 (ol.length + 1) c8] (ol ++ [(⟨4, q, p, [], []⟩ : Change)]) := by
            refine hF8.fresh (fun b h hl => ⟨?_, hl⟩)
            rcases h with h | h | h
            · exact h.1
            · have h7 : wc.heap.size ≤ b := h.1
              omega
            · simp at h; omega
          go_roundw
          case rel => exact ⟨⟨k + 1, _, by omega, by go_num, by simp; omega, hFn, HN.out⟩, hBn⟩
          case measure => simp [intOf] <;> omega
      · have HE := Lib.hid (backM_end HA.out hlt)
        go_wp2
        go_ret
        exact ⟨_, rfl, by rw [HE.out]; exact hF.mono hsW (Nat.le_refl _), hBx⟩
end Go.Proofs.YtlaklnpdnohofaaGreatDoor
namespace Go.Vc
open Go.RowKit
section
variable {w w' : World} {a b c : Addr} {x y z : Value}
theorem cells3_alloc (h : w.cell? a = some x ∧ w.cell? b = some y ∧ w.cell? c = some z) (o : Obj) : (w.alloc o).cell? a = some x ∧ (w.alloc o).cell? b = some y ∧ (w.alloc o).cell? c = some z :=
  ⟨cell_allocB h.1 o, cell_allocB h.2.1 o, cell_allocB h.2.2 o⟩
theorem cells3_drew (h : w.cell? a = some x ∧ w.cell? b = some y ∧ w.cell? c = some z) : w.drew.cell? a = some x ∧ w.drew.cell? b = some y ∧ w.drew.cell? c = some z := h
theorem cells3_keep (h : w.cell? a = some x ∧ w.cell? b = some y ∧ w.cell? c = some z) (hb : Below w.heap.size w w') : w'.cell? a = some x ∧ w'.cell? b = some y ∧ w'.cell? c = some z :=
  ⟨keepc h.1 hb, keepc h.2.1 hb, keepc h.2.2 hb⟩
theorem cells3_set (h : w.cell? a = some x ∧ w.cell? b = some y ∧ w.cell? c = some z) {p : Addr} {u : Value} (h1 : a.block ≠ p.block) (h2 : b.block ≠ p.block) (h3 : c.block ≠ p.block) : (w.setCell p u).cell? a = some x ∧ (w.setCell p u).cell? b = some y ∧ (w.setCell p u).cell? c = some z :=
  ⟨(World.cell?_of_block (Below.heap_setCell w p u a.block h1)).trans h.1, (World.cell?_of_block (Below.heap_setCell w p u b.block h2)).trans h.2.1, (World.cell?_of_block (Below.heap_setCell w p u c.block h3)).trans h.2.2⟩
end
/-- an object that has been laid -/
def HeapAt (w : World) (g : Nat) (o : Obj) : Prop := w.heap[g]? = some o
section
variable {w w' : World} {g : Nat} {o : Obj}
theorem HeapAt.at {cs : Array Value} {e : TypeId} (h : g = w.heap.size) : HeapAt (w.alloc (.cells cs e)) g (.cells cs e (0, 0)) := heap_new_at h
theorem HeapAt.alloc (h : HeapAt w g o) (ob : Obj) : HeapAt (w.alloc ob) g o := (Below.heap_alloc w ob g (Array.getElem?_eq_some_iff.1 h).1).trans h
theorem HeapAt.drew (h : HeapAt w g o) : HeapAt w.drew g o := h
theorem HeapAt.rest {n k : Nat} (hr : ∀ b, b < n → ¬ b = k → w'.heap[b]? = w.heap[b]?) (hn : g < n) (hk : ¬ g = k) (h : HeapAt w g o) : HeapAt w' g o := (hr g hn hk).trans h
end
section
variable {P : Program} {w : World} {α : Type} [Own α] [Tid α] {ops : Array Oper} {o : Oper} {a : Act} {Q : Exit → Act → World → Prop} {K : Act → World → Prop} {E : Prop}
/-- an append at an empty row that has been laid -/
theorem step_app_lit [Leaf α] {t : TypeId} {bytes : Nat} (T : SlT P t α bytes) (hz : 0 < Rep.sz α) (hg : o.guard = none) (s x : Operand) (hop : o.op = Op.call { callee := Callee.builtin Builtin.append, args := #[s, x], argTypes := #[t, t] })
    {g : Nat} {te : TypeId} (hte : te = Tid.tid α) (hs : a.eval s = .slice (some ⟨g, 0, none⟩) 0 0) (h : HeapAt w g (.cells #[] te (0, 0))) {R : Nat → Prop} {ad : Option Addr} {n c : Nat} {ys : List α} (hx : a.eval x = .slice ad n c) (hn : n = ys.length) (hy : IsSlice R w ad c ys) (hbytes : ys.length * bytes ≤ 140737488355328) (h63 : ys.length ≤ maxLen)
    (hK : ∀ (a' : Option Addr) (c' m : Nat) (w' : World), m = w.heap.size → FS (fun b => b = g ∨ (m ≤ b ∧ b < w'.heap.size)) w' [.slice a' ys.length c'] ys → (∀ b, b < m → ¬ b = g → w'.heap[b]? = w.heap[b]?) → (∀ B, B ≤ m → B ≤ g → Below B w w') → m ≤ w'.heap.size → K (a.put o.dst (.slice a' ys.length c')) w') :
    if Region.wanted o (yielded ops a.tmps) = true then Oper.wp P o a w K Q else E :=
  step_app_leafS T hg s x hop hs (FS.empty (β := α) hz (by rw [← hte]; exact h)) hx hn hy (by rw [List.length_nil, Nat.zero_add]; exact hbytes) (by rw [List.length_nil, Nat.zero_add]; exact h63) fun a' c' w' hG => by
    have hfs := hG.fs
    simp only [List.length_nil, Nat.zero_add, List.nil_append] at hfs ⊢
    exact hK a' c' w.heap.size w' rfl (hfs.mono fun b hb hl => hb.imp id fun h => ⟨h, hl⟩) hG.rest (fun B h1 h2 => hG.below B h1 fun b hb _ => by have e : b = g := hb; omega) hG.size
end
theorem FS.change {S T : Nat → Prop} {w : World} {v3 v4 : Value} {p : Change} (h0 : I64 p.kind) (h1 : p.path.size ≤ maxLen) (h2 : p.dst.size ≤ maxLen) (h3 : FS S w [v3] p.text) (h4 : FS T w [v4] p.patch) (hd : ∀ b, S b → T b → b < w.heap.size → False) : FS (fun b => S b ∨ T b) w [.int .i64 p.kind, .string p.path, .string p.dst, v3, v4] p := by
  have := FS.consL (show Own.own [] w [.int .i64 p.kind] p.kind from ⟨rfl, rfl, h0⟩) (FS.consL (show Own.own [] w [.string p.path] p.path from ⟨rfl, rfl, h1⟩) (FS.consL (show Own.own [] w [.string p.dst] p.dst from ⟨rfl, rfl, h2⟩) (FS.cat h3 h4 hd)))
  exact this
end Go.Vc
namespace Go.Proofs.YtlaklnpdnohofaaGreatDoor
open Go.RowKit Go.Vc
open Go.Vc.Rep (rd)
open Go.Vc.Own (own)
set_option maxHeartbeats 16000000 in
set_option maxRecDepth 100000 in
theorem specL2Back {S : Nat → Prop} (v : Value) (d : List Hunk) (w : World) (hv : rd S w [v] d) (hp : patchB d = true) :
    Calls Tryz.prog 52 #[v] w fun e w' => ∃ v', e = .returned v' ∧ Fresh w.heap.size w'.heap.size w' [v'] (backF d 0) ∧ Below w.heap.size w w' := by
  obtain ⟨a1, cap1, rfl, hs⟩ := rd_slice_elim (Rep.lt hv)
  have hld := patch_len hp
  have HPB := Lib.hid (fun (i : Nat) (hi : i < d.length) => patch_bounds hp hi)
  obtain ⟨D, hD⟩ : ∃ D, D = backF d 0 := ⟨_, rfl⟩
  have HD : Hid (D = [] ++ backF (d.drop 0) 0) := hD
  have hE := Fresh.empty (β := Hunk) (by decide) w.heap.size w (Nat.le_refl _)
  rw [← hD]
  clear hv hD hp
  go_enter Tryz.func52, Tryz.ntmps52
  go_wp2
  go_loopw [3, 4, 5] (fun out by_ i wr => (∃ (k : Nat) (ol : List Hunk) (acc : Int), k ≤ d.length ∧ i = .int .i64 k ∧ by_ = .int .i64 acc ∧ -(10 * (k : Int)) ≤ acc ∧ acc ≤ 10 * (k : Int) ∧ ol.length ≤ k ∧ Fresh w.heap.size wr.heap.size wr [out] ol ∧ Hid (D = ol ++ backF (d.drop k) acc)) ∧ Below w.heap.size w wr) (fun _ _ i _ => d.length - (intOf i).toNat)
  case atStart => exact ⟨⟨0, [], 0, by omega, rfl, rfl, by omega, by omega, by simp, hE.now, HD.out⟩, (Below.refl _ _).alloc (Nat.le_refl _) _⟩
  case round =>
    clear hE HD
    obtain ⟨⟨k, ol, acc, hk, rfl, rfl, hc1, hc2, hol, hF, HA⟩, hb⟩ := hrel
    obtain ⟨wo, hwo⟩ : ∃ wo : World, wo = wr := ⟨_, rfl⟩
    subst hwo
    obtain ⟨ao, co, hvo, _⟩ := hF.shape
    subst hvo
    have hsx := hb.size
    by_cases hlt : k < d.length
    · obtain ⟨g, off, b1, c1, b2, c2, hag, q0, q1, q2, hi0, hl1, hl2⟩ := (hs.keep hb).hunk hlt
      subst hag
      have hgw : g < w.heap.size := by obtain ⟨g9, o9, u9, e9, h9, _⟩ := (hs.keep hb).elem hlt; obtain ⟨rfl, rfl⟩ : g = g9 ∧ off = o9 := (by simpa using e9); exact h9
      have hpy := HPB.out k hlt
      have HP := Lib.hid (fun (acc' : Int) h => backF_put (acc' := acc') HA.out hlt h)
      obtain ⟨y, hy⟩ : ∃ y, y = d[k] := ⟨_, rfl⟩
      rw [← hy] at q0 q1 q2 hi0 hl1 hl2 hpy HP
      have hF0 : FS (fun b => w.heap.size ≤ b ∧ b < wo.heap.size) wo [.slice ao ol.length co] ol := hF.fs
      have hi9 : I64 (y.at_ + acc) := by unfold I64; omega
      have ew : IntKind.i64.wrap (y.at_ + acc) = y.at_ + acc := IntWalk.i64_in _ (by omega)
      have es : IntKind.i64.wrap (acc + (y.more.length : Int)) = acc + (y.more.length : Int) := IntWalk.i64_in _ (by omega)
      have ea : IntKind.i64.wrap (acc + (y.more.length : Int) - (y.less.length : Int)) = acc + (y.more.length : Int) - (y.less.length : Int) := IntWalk.i64_in _ (by omega)
      have HP2 := Lib.hid (HP.out (acc + (y.more.length : Int) - (y.less.length : Int)) (by omega))
      have K0 := And.intro q0 (And.intro q1 q2)
      have hb0 : Below wo.heap.size wo wo := Below.refl _ _
      have hM0 : IsSlice (fun b => b < w.heap.size) wo b2 c2 y.more := hl2
      have HZ2 := Lib.hid (fun (W : World) (h : Below wo.heap.size wo W) => (hl1.keep (h.mono hsx) : IsSlice (fun b => b < w.heap.size) W b1 c1 y.less))
      have hyl : y.less.length ≤ 10 := by omega
      have hym : y.more.length ≤ 10 := by omega
      clear q0 q1 q2 HA hF hl1 hl2 hy hi0 HP
      go_wp2_with fail
      go_region_held3 (fun w' => w'.cell? ⟨g, off + k * 3, none⟩ = some (.int .i64 y.at_) ∧ w'.cell? ⟨g, off + k * 3 + 1, none⟩ = some (.slice b1 y.less.length c1) ∧ w'.cell? ⟨g, off + k * 3 + 2, none⟩ = some (.slice b2 y.more.length c2))
        (first | exact K9 | exact K6 | exact K5 | exact K0 | ((repeat (first | with_reducible exact K6 | with_reducible exact K5 | with_reducible exact K0 | with_reducible refine cells3_drew ?_ | with_reducible refine cells3_alloc ?_ _)); done) | go_keep)
        (first
          | (refine step_app_lit (g := wo.heap.size) (R := fun b => b < w.heap.size) (ys := y.more) (te := 9) slz_string.slt Nat.one_pos rfl (.tmp 21) (.tmp 26) rfl rfl rfl ?_ rfl rfl ?_ ?_ ?_ ?_; (repeat (first | ((with_reducible refine HeapAt.at ?_); focus (first | rfl | (simp; done) | omega | (simp; omega))) | (with_reducible refine HeapAt.drew ?_) | (with_reducible refine HeapAt.alloc ?_ _))); (repeat (first | with_reducible exact hM0 | with_reducible refine IsSlice.drew ?_ | refine IsSlice.alloc ?_ _)); omega; (unfold maxLen; omega); intro e5 c5 m5 w5 hm5 hF5 hR5 hB5 hs5; (try simp at hm5); have hb5 : Below wo.heap.size wo w5 := Below.trans (by repeat (first | with_reducible exact hb0 | with_reducible refine Below.drew ?_ | with_reducible refine Below.alloc ?_ (by first | omega | (simp; omega) | (simp; done)) _)) (hB5 wo.heap.size (by omega) (by omega)); have K5 := cells3_keep K0 hb5; have hz5 := hb5.size; obtain ⟨gA, hgA⟩ : ∃ gA, gA = wo.heap.size := ⟨_, rfl⟩; rw [← hgA] at hF5 hR5; have hL5 := HZ2.out _ hb5)
          | (refine step_app_lit (g := (wo.heap.size + 1)) (R := fun b => b < w.heap.size) (ys := y.more) (te := 9) slz_string.slt Nat.one_pos rfl (.tmp 21) (.tmp 26) rfl rfl rfl ?_ rfl rfl ?_ ?_ ?_ ?_; (repeat (first | ((with_reducible refine HeapAt.at ?_); focus (first | rfl | (simp; done) | omega | (simp; omega))) | (with_reducible refine HeapAt.drew ?_) | (with_reducible refine HeapAt.alloc ?_ _))); (repeat (first | with_reducible exact hM0 | with_reducible refine IsSlice.drew ?_ | refine IsSlice.alloc ?_ _)); omega; (unfold maxLen; omega); intro e5 c5 m5 w5 hm5 hF5 hR5 hB5 hs5; (try simp at hm5); have hb5 : Below wo.heap.size wo w5 := Below.trans (by repeat (first | with_reducible exact hb0 | with_reducible refine Below.drew ?_ | with_reducible refine Below.alloc ?_ (by first | omega | (simp; omega) | (simp; done)) _)) (hB5 wo.heap.size (by omega) (by omega)); have K5 := cells3_keep K0 hb5; have hz5 := hb5.size; obtain ⟨gA, hgA⟩ : ∃ gA, gA = (wo.heap.size + 1) := ⟨_, rfl⟩; rw [← hgA] at hF5 hR5; have hL5 := HZ2.out _ hb5)
          | (refine step_app_lit (g := wo.heap.size) (R := fun b => b < w.heap.size) (ys := y.less) (te := 9) slz_string.slt Nat.one_pos rfl (.tmp 28) (.tmp 33) rfl rfl rfl ?_ rfl rfl ?_ ?_ ?_ ?_; (repeat (first | ((with_reducible refine HeapAt.at ?_); focus (first | rfl | (simp; done) | omega | (simp; omega))) | (with_reducible refine HeapAt.drew ?_) | (with_reducible refine HeapAt.alloc ?_ _) | (with_reducible refine HeapAt.rest hR5 (by first | omega | (simp; omega) | (simp; done)) (by first | omega | (simp; omega) | (simp; done)) ?_))); (repeat (first | with_reducible exact hL5 | with_reducible refine IsSlice.drew ?_ | refine IsSlice.alloc ?_ _)); omega; (unfold maxLen; omega); intro e6 c6 m6 w6 hm6 hF6 hR6 hB6 hs6; (try simp at hm6); have hb6 : Below wo.heap.size wo w6 := Below.trans (by repeat (first | with_reducible exact hb5 | with_reducible refine Below.drew ?_ | with_reducible refine Below.alloc ?_ (by first | omega | (simp; omega) | (simp; done)) _)) (hB6 wo.heap.size (by omega) (by omega)); have K6 := cells3_keep K0 hb6; have hz6 := hb6.size; have hF56 : FS (fun b => b = gA ∨ (m5 ≤ b ∧ b < w5.heap.size)) w6 [.slice e5 y.more.length c5] y.more := FS.keep (by repeat (first | with_reducible exact hF5 | with_reducible refine FS.alloc ?_ _ | with_reducible refine FS.drew ?_)) (fun b h _ => hR6 b (by omega) (by omega)); have hY : FS (fun b => wo.heap.size ≤ b) w6 [.int .i64 (y.at_ + acc), .slice e5 y.more.length c5, .slice e6 y.less.length c6] (⟨y.at_ + acc, y.more, y.less⟩ : Hunk) := FS.mono (FS.consL (show Go.Vc.Own.own [] w6 [.int .i64 (y.at_ + acc)] (y.at_ + acc) from ⟨rfl, rfl, hi9⟩) (FS.cat hF56 hF6 (fun b h1 h2 _ => by omega))) (fun b h _ => by omega))
          | (refine step_app_lit (g := (wo.heap.size + 1)) (R := fun b => b < w.heap.size) (ys := y.less) (te := 9) slz_string.slt Nat.one_pos rfl (.tmp 28) (.tmp 33) rfl rfl rfl ?_ rfl rfl ?_ ?_ ?_ ?_; (repeat (first | ((with_reducible refine HeapAt.at ?_); focus (first | rfl | (simp; done) | omega | (simp; omega))) | (with_reducible refine HeapAt.drew ?_) | (with_reducible refine HeapAt.alloc ?_ _) | (with_reducible refine HeapAt.rest hR5 (by first | omega | (simp; omega) | (simp; done)) (by first | omega | (simp; omega) | (simp; done)) ?_))); (repeat (first | with_reducible exact hL5 | with_reducible refine IsSlice.drew ?_ | refine IsSlice.alloc ?_ _)); omega; (unfold maxLen; omega); intro e6 c6 m6 w6 hm6 hF6 hR6 hB6 hs6; (try simp at hm6); have hb6 : Below wo.heap.size wo w6 := Below.trans (by repeat (first | with_reducible exact hb5 | with_reducible refine Below.drew ?_ | with_reducible refine Below.alloc ?_ (by first | omega | (simp; omega) | (simp; done)) _)) (hB6 wo.heap.size (by omega) (by omega)); have K6 := cells3_keep K0 hb6; have hz6 := hb6.size; have hF56 : FS (fun b => b = gA ∨ (m5 ≤ b ∧ b < w5.heap.size)) w6 [.slice e5 y.more.length c5] y.more := FS.keep (by repeat (first | with_reducible exact hF5 | with_reducible refine FS.alloc ?_ _ | with_reducible refine FS.drew ?_)) (fun b h _ => hR6 b (by omega) (by omega)); have hY : FS (fun b => wo.heap.size ≤ b) w6 [.int .i64 (y.at_ + acc), .slice e5 y.more.length c5, .slice e6 y.less.length c6] (⟨y.at_ + acc, y.more, y.less⟩ : Hunk) := FS.mono (FS.consL (show Go.Vc.Own.own [] w6 [.int .i64 (y.at_ + acc)] (y.at_ + acc) from ⟨rfl, rfl, hi9⟩) (FS.cat hF56 hF6 (fun b h1 h2 _ => by omega))) (fun b h _ => by omega))
          | (refine step_app_lit (g := w5.heap.size) (R := fun b => b < w.heap.size) (ys := y.less) (te := 9) slz_string.slt Nat.one_pos rfl (.tmp 28) (.tmp 33) rfl rfl rfl ?_ rfl rfl ?_ ?_ ?_ ?_; (repeat (first | ((with_reducible refine HeapAt.at ?_); focus (first | rfl | (simp; done) | omega | (simp; omega))) | (with_reducible refine HeapAt.drew ?_) | (with_reducible refine HeapAt.alloc ?_ _) | (with_reducible refine HeapAt.rest hR5 (by first | omega | (simp; omega) | (simp; done)) (by first | omega | (simp; omega) | (simp; done)) ?_))); (repeat (first | with_reducible exact hL5 | with_reducible refine IsSlice.drew ?_ | refine IsSlice.alloc ?_ _)); omega; (unfold maxLen; omega); intro e6 c6 m6 w6 hm6 hF6 hR6 hB6 hs6; (try simp at hm6); have hb6 : Below wo.heap.size wo w6 := Below.trans (by repeat (first | with_reducible exact hb5 | with_reducible refine Below.drew ?_ | with_reducible refine Below.alloc ?_ (by first | omega | (simp; omega) | (simp; done)) _)) (hB6 wo.heap.size (by omega) (by omega)); have K6 := cells3_keep K0 hb6; have hz6 := hb6.size; have hF56 : FS (fun b => b = gA ∨ (m5 ≤ b ∧ b < w5.heap.size)) w6 [.slice e5 y.more.length c5] y.more := FS.keep (by repeat (first | with_reducible exact hF5 | with_reducible refine FS.alloc ?_ _ | with_reducible refine FS.drew ?_)) (fun b h _ => hR6 b (by omega) (by omega)); have hY : FS (fun b => wo.heap.size ≤ b) w6 [.int .i64 (y.at_ + acc), .slice e5 y.more.length c5, .slice e6 y.less.length c6] (⟨y.at_ + acc, y.more, y.less⟩ : Hunk) := FS.mono (FS.consL (show Go.Vc.Own.own [] w6 [.int .i64 (y.at_ + acc)] (y.at_ + acc) from ⟨rfl, rfl, hi9⟩) (FS.cat hF56 hF6 (fun b h1 h2 _ => by omega))) (fun b h _ => by omega))
          | (refine step_app_oneS (S := fun b => w.heap.size ≤ b ∧ b < wo.heap.size) (T := fun b => wo.heap.size ≤ b) (xs := ol) (v := .slice ao ol.length co) (y := (⟨y.at_ + acc, y.more, y.less⟩ : Hunk)) (g := w6.heap.size) (cs := [.int .i64 (y.at_ + acc), .slice e5 y.more.length c5, .slice e6 y.less.length c6]) (e := 115) slz_hunk.slt rfl (.tmp 13) (.tmp 36) rfl rfl ?_ rfl ?_ ?_ ?_ ?_ ?_ ?_; exact (hF0.below hb6 (fun b hb _ => hb.2)).alloc _; exact heap_alloc_new _ _; exact hY.alloc _; exact (fun b h3 h4 _ => by have h5 : w.heap.size ≤ b ∧ b < wo.heap.size := h3; have h6 : wo.heap.size ≤ b := h4; omega); omega; (unfold maxLen; omega); intro a9 c9 w9 hF9 hb9 hr9; have hrg : w9.heap[g]? = w6.heap[g]? := (hr9 g (by simp; omega) (by intro h; have h5 : w.heap.size ≤ g ∧ g < wo.heap.size := h; omega)).trans (Below.heap_alloc _ _ _ (by omega)); have K9 := And.intro ((World.cell?_of_block hrg).trans K6.1) (And.intro ((World.cell?_of_block hrg).trans K6.2.1) ((World.cell?_of_block hrg).trans K6.2.2))))
      all_goals
        have hBn : Below w.heap.size w w9 := ((hb.trans (hb6.mono hsx)).alloc (by omega) _).trans (hb9 w.heap.size (by simp; omega) (fun b h _ => h.1))
        have hFn : Fresh w.heap.size w9.heap.size w9 [.slice a9 (ol.length + 1) c9] (ol ++ [(⟨y.at_ + acc, y.more, y.less⟩ : Hunk)]) := by
          refine hF9.fresh (fun b h hl => ⟨?_, hl⟩)
          rcases h with h | h | h
          · exact h.1
          · have h5 : wo.heap.size ≤ b := h
            omega
          · simp at h; omega
        have z0 := BW.cell K9.1
        have z1 := BW.cell K9.2.1
        have z2 := BW.cell K9.2.2
        have hsn := hBn.size
        clear hF9 hb9 hr9 hrg K9 K6 K5 K0 hY hF56 hF6 hF5 hb5 hb6 hR5 hR6 hB5 hB6
        go_wp2
        refine wp_region_bw (by kernel_rfl) (by kernel_rfl) ?_
        repeat (go_big_quiet_step (fail))
        refine wpQuiet_nil ?_
        rintro w1 ⟨⟨_, hbw⟩, rfl⟩
        go_wp2
        go_roundw
        case rel => exact ⟨⟨k + 1, ol ++ [(⟨y.at_ + acc, y.more, y.less⟩ : Hunk)], acc + (y.more.length : Int) - (y.less.length : Int), by omega, by go_num, rfl, by omega, by omega, by simp; omega, (hFn.below (Nat.le_refl _) hbw).mono (Nat.le_refl _) hbw.size, HP2.out⟩, hBn.trans (hbw.mono hsn)⟩
        case measure => simp [intOf] <;> omega
    · have HE := Lib.hid (backF_end HA.out hlt)
      go_wp2
      go_ret
      exact ⟨_, rfl, by rw [HE.out]; exact hF, hb⟩
end Go.Proofs.YtlaklnpdnohofaaGreatDoor
