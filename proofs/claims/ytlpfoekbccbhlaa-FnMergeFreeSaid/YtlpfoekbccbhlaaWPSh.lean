/-
  Walks: a patch as it is behind another one, as the program has it.
-/
import Derived.Test.YtlpfoekbccbhlaaWPF
import Derived.Test.YtlpfoekbccbhlaaWCopy
import Derived.Test.YtlpfoekbccbhlaaFS
import Derived.Deep.RegionHeld3
set_option linter.unusedVariables false
namespace Go.Proofs.Ytlpfoekbccbhlaa
open Go.RowKit Go.Vc
open Go.Vc.Rep (rd)
open Go.Vc.Own (own)
theorem cell_allocP {w : World} {p : Addr} {u : Value} (h : w.cell? p = some u) (o : Obj) : (w.alloc o).cell? p = some u :=
  (World.cell?_of_block (Below.heap_alloc w o p.block (World.block_lt_of_cell? w p h))).trans h
set_option maxHeartbeats 16000000 in
set_option maxRecDepth 100000 in
theorem implPatchShift {S T : Nat → Prop} (v u : Value) (a b : List Hunk) (w : World) (hv : rd S w [v] a) (hu : rd T w [u] b) :
    Calls Try.prog 17 #[v, u] w fun e w' => ∃ v', e = .returned v' ∧ Fresh w.heap.size w'.heap.size w' [v'] (shiftT a b) ∧ Below w.heap.size w w' := by
  obtain ⟨a1, cap1, rfl, hs⟩ := rd_slice_elim (Rep.lt hv)
  obtain ⟨a2, cap2, rfl, ht⟩ := rd_slice_elim (Rep.lt hu)
  clear hv hu
  cases ef : freeB a b with
  | false =>
    have HR := Lib.hid (show shiftT a b = [] by rw [shiftT, if_neg (by rw [ef]; simp)])
    go_enter Try.func17, Try.ntmps17
    go_wp2_with fail
    refine (implPatchFree _ _ a b _ hs.rd ht.rd ef).mono ?_
    rintro e w1 ⟨rfl, hb1⟩
    go_wp2
    go_ret
    exact ⟨.slice none 0 0, rfl, by rw [HR.out]; exact Fresh.nil _ _ _ (by decide), hb1⟩
  | true =>
    have HR := Lib.hid (show shiftT a b = [] ++ shiftF a (b.drop 0) by rw [shiftT, if_pos ef]; rfl)
    have hpp : patchB a = true ∧ patchB b = true := by
      unfold freeB at ef
      simp only [Bool.and_eq_true] at ef
      exact ef.1
    have hla := patch_len hpp.1
    have hlb := patch_len hpp.2
    have HPA := Lib.hid (fun (i : Nat) (hi : i < a.length) => patch_few hpp.1 hi)
    have HPB := Lib.hid (fun (i : Nat) (hi : i < b.length) => patch_few hpp.2 hi)
    obtain ⟨D, hD⟩ : ∃ D, D = shiftT a b := ⟨_, rfl⟩
    rw [← hD] at HR ⊢
    clear hpp hD
    go_enter Try.func17, Try.ntmps17
    go_wp2_with fail
    refine (implPatchFree _ _ a b _ hs.rd ht.rd ef).mono ?_
    rintro e w1 ⟨rfl, hW⟩
    have hsW := hW.size
    clear ef
    go_wp2
    go_loopw [5, 17] (fun out i wr => (∃ (k : Nat) (ol : List Hunk), k ≤ b.length ∧ i = .int .i64 k ∧ ol.length ≤ k ∧ Fresh w1.heap.size wr.heap.size wr [out] ol ∧ Hid (D = ol ++ shiftF a (b.drop k))) ∧ Below w1.heap.size w1 wr) (fun _ i _ => b.length - (intOf i).toNat)
    case atStart => exact ⟨⟨0, [], by omega, rfl, by simp, Fresh.nil _ _ _ (by decide), HR.out⟩, Below.refl _ _⟩
    case round =>
      obtain ⟨⟨k, ol, hk, rfl, hol, hF, HA⟩, hb⟩ := hrel
      obtain ⟨wx, hwx⟩ : ∃ wx : World, wx = wr := ⟨_, rfl⟩
      subst hwx
      obtain ⟨ao, co, hvo, _⟩ := hF.shape
      subst hvo
      have hsx := hb.size
      have hBx := hW.trans (hb.mono hsW)
      by_cases hlt : k < b.length
      · obtain ⟨g, off, b1, c1, b2, c2, hag, q0, q1, q2, hi0, hl1, hl2⟩ := (ht.keep hBx).hunk hlt
        subst hag
        have hpy := HPB.out k hlt
        have HP := Lib.hid (shift_put HA.out hlt)
        obtain ⟨y, hy⟩ : ∃ y, y = b[k] := ⟨_, rfl⟩
        rw [← hy] at q0 q1 q2 hi0 hl1 hl2 hpy HP
        obtain ⟨wb, hwb⟩ : ∃ wb, wb = wx.alloc (.cells #[.int .i64 y.at_, .slice b1 y.less.length c1, .slice b2 y.more.length c2] 40) := ⟨_, rfl⟩
        obtain ⟨hB0, hsb, hq⟩ := boxed (vs := [.int .i64 y.at_, .slice b1 y.less.length c1, .slice b2 y.more.length c2]) hwb
        have p0 := hq 0 _ rfl
        have p1 := hq 1 _ rfl
        have p2 := hq 2 _ rfl
        have HWB := Lib.hid hwb
        have hsb1 : wx.heap.size < wb.heap.size := by omega
        have hBb := hBx.trans (hB0.mono hBx.size)
        have hb0 := hb.trans (hB0.mono hsx)
        have hl1 := hl1.keep (hB0.mono hBx.size)
        have hl2 := hl2.keep (hB0.mono hBx.size)
        have hFb : FS (fun b => w1.heap.size ≤ b ∧ b < wx.heap.size) wb [.slice ao ol.length co] ol := hF.fs.keep (fun b hb _ => hB0.block b hb.2)
        obtain ⟨M, hM⟩ : ∃ M, shiftAt a y = M := ⟨_, rfl⟩
        rw [hM] at HP
        have HM0 : Hid (M = (a.drop 0).foldl (stepS y.at_) y.at_) := by show _ = _; rw [← hM]; rfl
        clear hy hwb hq hsb hM HA hF
        go_wp2
        rw [← HWB.out]
        go_loopw [8, 25] (fun at_ i wr => (∃ (j : Nat) (acc : Int), j ≤ a.length ∧ i = .int .i64 j ∧ at_ = .int .i64 acc ∧ -(10 * (j : Int)) ≤ acc ∧ acc ≤ 10 + 10 * (j : Int) ∧ Hid (M = (a.drop j).foldl (stepS y.at_) acc)) ∧ Below wb.heap.size wb wr) (fun _ i _ => a.length - (intOf i).toNat)
        case atStart => exact ⟨⟨0, y.at_, by omega, rfl, rfl, by omega, by omega, HM0.out⟩, Below.refl _ _⟩
        case round =>
          obtain ⟨⟨j, acc, hj, rfl, rfl, hc1, hc2, HB⟩, hb2⟩ := hrel
          obtain ⟨wy, hwy⟩ : ∃ wy : World, wy = wr := ⟨_, rfl⟩
          subst hwy
          have hsy := hb2.size
          have hBy := hBb.trans (hb2.mono hBb.size)
          have p0 := keepc p0 hb2
          have p1 := keepc p1 hb2
          have p2 := keepc p2 hb2
          by_cases hlj : j < a.length
          · obtain ⟨g2, off2, d1, e1, d2, e2, hag2, r0, r1, r2, hj0, hm1, hm2⟩ := (hs.keep hBy).hunk hlj
            subst hag2
            have hpx := HPA.out j hlj
            have HY2 := Lib.hid (fun h => stepS_yes HB.out hlj h)
            have HN2 := Lib.hid (fun h => stepS_no HB.out hlj h)
            obtain ⟨x, hx⟩ : ∃ x, x = a[j] := ⟨_, rfl⟩
            rw [← hx] at r0 r1 r2 hj0 hpx HY2 HN2
            have p0a := cell_allocP p0 (.cells #[.int .i64 x.at_, .slice d1 x.less.length e1, .slice d2 x.more.length e2] 40)
            clear hx hm1 hm2 HB
            by_cases c1x : x.at_ < y.at_
            · have c1d : decide (x.at_ < y.at_) = true := decide_eq_true c1x
              have HZ := Lib.hid (HY2.out c1x)
              have es : IntKind.i64.wrap ((x.more.length : Int) - (x.less.length : Int)) = (x.more.length : Int) - (x.less.length : Int) := IntWalk.i64_in _ (by omega)
              have ea : IntKind.i64.wrap (acc + ((x.more.length : Int) - (x.less.length : Int))) = acc + ((x.more.length : Int) - (x.less.length : Int)) := IntWalk.i64_in _ (by omega)
              clear c1x
              go_wp2
              go_roundw
              case rel => exact ⟨⟨j + 1, acc + ((x.more.length : Int) - (x.less.length : Int)), by omega, by go_num, rfl, by omega, by omega, HZ.out⟩, hb2.alloc hsy _⟩
              case measure => simp [intOf] <;> omega
            · have c1d : decide (x.at_ < y.at_) = false := decide_eq_false c1x
              have HZ := Lib.hid (HN2.out c1x)
              clear c1x
              go_wp2
              go_roundw
              case rel => exact ⟨⟨j + 1, acc, by omega, by go_num, rfl, by omega, by omega, HZ.out⟩, hb2.alloc hsy _⟩
              case measure => simp [intOf] <;> omega
          · have HE := Lib.hid (stepS_end HB.out hlj)
            have hl1 := hl1.keep ((hb2.mono hBb.size))
            have hl2 := hl2.keep ((hb2.mono hBb.size))
            have hFy := hFb.keep (w' := wy) (fun b hb _ => hb2.block b (by omega))
            have hlr := hl1.rd
            have hmr := hl2.rd
            have hi9 : I64 acc := by unfold I64; omega
            have K0 := And.intro p1 p2
            have hsw := hBy.size
            have hb9 := hb0.trans (hb2.mono hb0.size)
            have hs9 := hb9.size
            have hyl : y.less.length ≤ 10 := by omega
            have hym : y.more.length ≤ 10 := by omega
            have hwl : wx.heap.size < wy.heap.size := by omega
            clear q0 q1 q2 p0 p1 p2 HB hFb hl1 hl2
            go_wp2_with fail
            go_region_held3 (fun w' => w'.cell? ⟨wx.heap.size, 1, none⟩ = some (.slice b1 y.less.length c1) ∧ w'.cell? ⟨wx.heap.size, 2, none⟩ = some (.slice b2 y.more.length c2))
              (first | exact K9 | exact ⟨cell_allocP KB.1 _, cell_allocP KB.2 _⟩ | exact KB | exact KA | exact K0 | go_keep)
              (first
                | (go_at_call 33; (with_reducible refine (copyText_any _ y.less _ (Rep.drew hlr) (by omega)).mono ?_); rintro e wA ⟨aA, cA, rfl, hA, hbA⟩; have hszA : wy.heap.size ≤ wA.heap.size := hbA.size; have hmrA := Rep.keep (Rep.drew hmr) (hbA.mono hsw); have KA := And.intro (keepc (show wy.drew.cell? ⟨wx.heap.size, 1, none⟩ = some (.slice b1 y.less.length c1) from K0.1) hbA) (keepc (show wy.drew.cell? ⟨wx.heap.size, 2, none⟩ = some (.slice b2 y.more.length c2) from K0.2) hbA))
                | (go_at_call 33; (with_reducible refine (copyText_any _ y.more _ hmrA (by omega)).mono ?_); rintro e wB ⟨aB, cB, rfl, hB, hbB⟩; have hszB := hbB.size; have KB := And.intro (keepc KA.1 hbB) (keepc KA.2 hbB))
                | (refine step_app_oneS slz_hunk.slt rfl (.tmp 44) (.tmp 53) rfl rfl (((hFy.drew.below hbA (fun b hb hl => hl)).below hbB (fun b hb hl => hl)).alloc _) rfl (heap_alloc_new _ _) (Fresh.hunk (p := ⟨acc, y.less, y.more⟩) hi9 ((hA.below (Nat.le_refl _) hbB).alloc _) (hB.alloc _) hszA hszB).fs (fun b (h3 : w1.heap.size ≤ b ∧ b < wx.heap.size) h4 _ => by have h5 : wy.heap.size ≤ b := h4.1; omega) (by omega) (by unfold maxLen; omega) ?_; intro a9 c9 w9 hF9 hb99 hr99; have K9 := And.intro ((World.cell?_of_block (hr99 wx.heap.size (by simp; omega) (by intro (h : w1.heap.size ≤ wx.heap.size ∧ wx.heap.size < wx.heap.size); omega))).trans (cell_allocP KB.1 _)) ((World.cell?_of_block (hr99 wx.heap.size (by simp; omega) (by intro (h : w1.heap.size ≤ wx.heap.size ∧ wx.heap.size < wx.heap.size); omega))).trans (cell_allocP KB.2 _))))
            all_goals
              have hzA : wy.heap.size ≤ wA.heap.size := hszA
              have hBn : Below w1.heap.size w1 w9 := (((hb9.drew.trans (hbA.mono (by simp <;> omega))).trans (hbB.mono (by omega))).alloc (by omega) _).trans (hb99 w1.heap.size (by simp; omega) (fun b h _ => h.1))
              have hFn : Fresh w1.heap.size w9.heap.size w9 [.slice a9 (ol.length + 1) c9] (ol ++ [(⟨M, y.less, y.more⟩ : Hunk)]) := by
                rw [HE.out]
                refine hF9.fresh (fun b h hl => ⟨?_, hl⟩)
                rcases h with h | h | h
                · exact h.1
                · have h5 : wy.heap.size ≤ b := h.1
                  omega
                · simp at h; omega
              clear hF9 hb99 hr99 K9 KA KB K0 hA hB hbA hbB hmrA
              go_wp2
              go_roundw
              case rel => exact ⟨⟨k + 1, ol ++ [(⟨M, y.less, y.more⟩ : Hunk)], by omega, by go_num, by simp; omega, hFn, HP.out⟩, hBn⟩
              case measure => simp [intOf] <;> omega
      · have HE := Lib.hid (shift_end HA.out hlt)
        go_wp2
        go_ret
        exact ⟨_, rfl, by rw [HE.out]; exact hF.mono hsW (Nat.le_refl _), hBx⟩
end Go.Proofs.Ytlpfoekbccbhlaa
