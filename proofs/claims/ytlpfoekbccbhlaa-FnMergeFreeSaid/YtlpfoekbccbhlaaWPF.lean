/-
  Walks: patches that are apart, as the program has it.
-/
import Derived.Test.YtlpfoekbccbhlaaPlPF
import Derived.Test.YtlpfoekbccbhlaaWP1
set_option linter.unusedVariables false
namespace Go.Proofs.Ytlpfoekbccbhlaa
open Go.RowKit Go.Vc
open Go.Vc.Rep (rd)
open Go.Vc.Own (own)
set_option maxHeartbeats 8000000 in
set_option maxRecDepth 100000 in
theorem implPatchFree {S T : Nat → Prop} (v u : Value) (a b : List Hunk) (w : World) (hv : rd S w [v] a) (hu : rd T w [u] b) {r : Bool} (hr : freeB a b = r) :
    Calls Try.prog 14 #[v, u] w fun e w' => e = .returned (.bool r) ∧ Below w.heap.size w w' := by
  obtain ⟨a1, cap1, rfl, hs⟩ := rd_slice_elim (Rep.lt hv)
  obtain ⟨a2, cap2, rfl, ht⟩ := rd_slice_elim (Rep.lt hu)
  clear hv hu
  cases ea : patchB a with
  | false =>
    have HR : Hid (r = false) := by show _ = _; rw [← hr, free_no1 ea]
    clear hr
    go_enter Try.func14, Try.ntmps14
    go_wp2_with fail
    refine (patchOk_is _ a _ hs.rd ea).mono ?_
    rintro e w1 ⟨rfl, hb1⟩
    go_wp2
    go_ret
    exact ⟨ret_bool HR.out.symm, hb1⟩
  | true =>
    cases eb : patchB b with
    | false =>
      have HR : Hid (r = false) := by show _ = _; rw [← hr, free_no2 eb]
      clear hr
      go_enter Try.func14, Try.ntmps14
      go_wp2_with fail
      refine (patchOk_is _ a _ hs.rd ea).mono ?_
      rintro e w1 ⟨rfl, hb1⟩
      go_wp2_with fail
      refine (patchOk_is _ b _ (ht.keep hb1).rd eb).mono ?_
      rintro e w2 ⟨rfl, hb2⟩
      go_wp2
      go_ret
      exact ⟨ret_bool HR.out.symm, hb1.trans (hb2.mono hb1.size)⟩
    | true =>
      have HR : Hid (r = freeF a b) := by show _ = _; rw [← hr, free_ok ea eb]
      have hla := patch_len ea
      have hlb := patch_len eb
      have HPA := Lib.hid (fun (i : Nat) (hi : i < a.length) => patch_few ea hi)
      have HPB := Lib.hid (fun (i : Nat) (hi : i < b.length) => patch_few eb hi)
      clear hr
      go_enter Try.func14, Try.ntmps14
      go_wp2_with fail
      refine (patchOk_is _ a _ hs.rd ea).mono ?_
      rintro e w1 ⟨rfl, hb1⟩
      go_wp2_with fail
      refine (patchOk_is _ b _ (ht.keep hb1).rd eb).mono ?_
      rintro e w2 ⟨rfl, hb2⟩
      have hW := hb1.trans (hb2.mono hb1.size)
      have hsW := hW.size
      clear hb1 hb2 ea eb
      go_wp2
      go_loopw [19] (fun i wr => (∃ k : Nat, k ≤ a.length ∧ i = .int .i64 k ∧ Hid (r = freeF (a.drop k) b)) ∧ Below w2.heap.size w2 wr) (fun i _ => a.length - (intOf i).toNat)
      case atStart => exact ⟨⟨0, by omega, rfl, HR.out⟩, Below.refl _ _⟩
      case round =>
        obtain ⟨⟨k, hk, rfl, HA⟩, hb⟩ := hrel
        obtain ⟨wx, hwx⟩ : ∃ wx : World, wx = wr := ⟨_, rfl⟩
        subst hwx
        have hsx := hb.size
        have hBx := hW.trans (hb.mono hsW)
        by_cases hlt : k < a.length
        · obtain ⟨g, off, b1, c1, b2, c2, hag, q0, q1, q2, hi0, hl1, hl2⟩ := (hs.keep hBx).hunk hlt
          subst hag
          have hpa := HPA.out k hlt
          have HY := Lib.hid (fun h => free_hit HA.out hlt h)
          have HN := Lib.hid (fun h => free_bad HA.out hlt h)
          obtain ⟨x, hx⟩ : ∃ x, x = a[k] := ⟨_, rfl⟩
          rw [← hx] at q0 q1 q2 hi0 hpa HY HN
          obtain ⟨wb, hwb⟩ : ∃ wb, wb = wx.alloc (.cells #[.int .i64 x.at_, .slice b1 x.less.length c1, .slice b2 x.more.length c2] 40) := ⟨_, rfl⟩
          obtain ⟨hB0, hsb, hq⟩ := boxed (vs := [.int .i64 x.at_, .slice b1 x.less.length c1, .slice b2 x.more.length c2]) hwb
          have p0 := hq 0 _ rfl
          have p1 := hq 1 _ rfl
          have p2 := hq 2 _ rfl
          have HWB := Lib.hid hwb
          have hBb := hBx.trans (hB0.mono hBx.size)
          have hb0 := hb.trans (hB0.mono hsx)
          have hxl : x.less.length ≤ 1000000 := by omega
          have hxa : -1000000 ≤ x.at_ ∧ x.at_ ≤ 1000000 := by omega
          obtain ⟨R, hR⟩ : ∃ R, b.all (apartB x) = R := ⟨_, rfl⟩
          rw [hR] at HY HN
          have HR0 : Hid (R = (b.drop 0).all (apartB x)) := hR.symm
          clear hx hwb hq hsb hl1 hl2 hR HA
          go_wp2
          rw [← HWB.out]
          go_loopw [25] (fun i wr => (∃ j : Nat, j ≤ b.length ∧ i = .int .i64 j ∧ Hid (R = (b.drop j).all (apartB x))) ∧ Below wb.heap.size wb wr) (fun i _ => b.length - (intOf i).toNat)
          case atStart => exact ⟨⟨0, by omega, rfl, HR0.out⟩, Below.refl _ _⟩
          case round =>
            obtain ⟨⟨j, hj, rfl, HB⟩, hb2⟩ := hrel
            obtain ⟨wy, hwy⟩ : ∃ wy : World, wy = wr := ⟨_, rfl⟩
            subst hwy
            have hsy := hb2.size
            have hBy := hBb.trans (hb2.mono hBb.size)
            have p0 := keepc p0 hb2
            have p1 := keepc p1 hb2
            have p2 := keepc p2 hb2
            have hby := hb0.trans (hb2.mono hb0.size)
            by_cases hlj : j < b.length
            · obtain ⟨g2, off2, d1, e1, d2, e2, hag2, r0, r1, r2, hj0, hm1, hm2⟩ := (ht.keep hBy).hunk hlj
              subst hag2
              have hpb := HPB.out j hlj
              have HY2 := Lib.hid (fun h => row_hit HB.out hlj h)
              have HN2 := Lib.hid (fun h => row_bad HB.out hlj h)
              obtain ⟨y, hy⟩ : ∃ y, y = b[j] := ⟨_, rfl⟩
              rw [← hy] at r0 r1 r2 hj0 hpb HY2 HN2
              obtain ⟨wc, hwc⟩ : ∃ wc, wc = wy.alloc (.cells #[.int .i64 y.at_, .slice d1 y.less.length e1, .slice d2 y.more.length e2] 40) := ⟨_, rfl⟩
              obtain ⟨hC0, hsc, hqc⟩ := boxed (vs := [.int .i64 y.at_, .slice d1 y.less.length e1, .slice d2 y.more.length e2]) hwc
              have s0 := BW.cell (hqc 0 _ rfl)
              have s1 := BW.cell (hqc 1 _ rfl)
              have s2 := BW.cell (hqc 2 _ rfl)
              have t0 := BW.cell (keepc p0 hC0)
              have t1 := BW.cell (keepc p1 hC0)
              have t2 := BW.cell (keepc p2 hC0)
              have HWC := Lib.hid hwc
              have hyl : y.less.length ≤ 1000000 := by omega
              have hya : -1000000 ≤ y.at_ ∧ y.at_ ≤ 1000000 := by omega
              have hBc := hb2.trans (hC0.mono hsy)
              have hbc := hby.trans (hC0.mono hby.size)
              clear hy hwc hqc hsc hm1 hm2 HB p0 p1 p2
              by_cases c1x : y.at_ ≤ x.at_ + (x.less.length : Int)
              · have c1d := dec_le_t c1x
                by_cases c2x : x.at_ ≤ y.at_ + (y.less.length : Int)
                · have c2d := dec_le_t c2x
                  have HZ := Lib.hid (HN.out (HN2.out (apart_f c1x c2x)))
                  clear c1x c2x
                  go_wp2
                  rw [← HWC.out]
                  refine wp_region_bw (by kernel_rfl) (by kernel_rfl) ?_
                  repeat (go_big_quiet_step ((first | (go_at_call 28; first | with_reducible exact Calls.bw (hunkEnd_any x _ _ hxl hxa) | exact Calls.bw (hunkEnd_any y _ _ hyl hya)))))
                  refine wpQuiet_nil ?_
                  rintro w1 ⟨⟨_, hbw⟩, rfl⟩
                  go_wp2
                  go_ret
                  exact ⟨ret_bool HZ.out.symm, hW.trans ((hbc.trans (hbw.mono hbc.size)).mono hsW)⟩
                · have c2d := dec_le_f c2x
                  have HZ := Lib.hid (HY2.out (apart_2 c2x))
                  clear c1x c2x
                  go_wp2
                  rw [← HWC.out]
                  refine wp_region_bw (by kernel_rfl) (by kernel_rfl) ?_
                  repeat (go_big_quiet_step ((first | (go_at_call 28; first | with_reducible exact Calls.bw (hunkEnd_any x _ _ hxl hxa) | exact Calls.bw (hunkEnd_any y _ _ hyl hya)))))
                  refine wpQuiet_nil ?_
                  rintro w1 ⟨⟨_, hbw⟩, rfl⟩
                  go_wp2
                  go_roundw
                  case rel => exact ⟨⟨j + 1, by omega, by go_num, HZ.out⟩, hBc.trans (hbw.mono hBc.size)⟩
                  case measure => simp [intOf] <;> omega
              · have c1d := dec_le_f c1x
                have HZ := Lib.hid (HY2.out (apart_1 c1x))
                clear c1x
                go_wp2
                rw [← HWC.out]
                refine wp_region_bw (by kernel_rfl) (by kernel_rfl) ?_
                repeat (go_big_quiet_step ((first | (go_at_call 28; first | with_reducible exact Calls.bw (hunkEnd_any x _ _ hxl hxa) | exact Calls.bw (hunkEnd_any y _ _ hyl hya)))))
                refine wpQuiet_nil ?_
                rintro w1 ⟨⟨_, hbw⟩, rfl⟩
                go_wp2
                go_roundw
                case rel => exact ⟨⟨j + 1, by omega, by go_num, HZ.out⟩, hBc.trans (hbw.mono hBc.size)⟩
                case measure => simp [intOf] <;> omega
            · have HZ := Lib.hid (HY.out (row_end HB.out hlj))
              go_wp2
              go_roundw
              case rel => exact ⟨⟨k + 1, by omega, by go_num, HZ.out⟩, hby⟩
              case measure => simp [intOf] <;> omega
        · have HZ := Lib.hid (free_end HA.out hlt)
          go_wp2
          go_ret
          exact ⟨ret_bool HZ.out.symm, hBx⟩
end Go.Proofs.Ytlpfoekbccbhlaa
