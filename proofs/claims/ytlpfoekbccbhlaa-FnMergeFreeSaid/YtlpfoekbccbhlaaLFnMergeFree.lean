/-
  The walk of a law: FnMergeFree.
-/
import Derived.Test.YtlpfoekbccbhlaaDrawPF
import Derived.Test.YtlpfoekbccbhlaaWPSh
import Derived.Test.YtlpfoekbccbhlaaWPFs
import Derived.Test.YtlpfoekbccbhlaaWG6
import Derived.Test.YtlpfoekbccbhlaaSmH
import Derived.Test.YtlpfoekbccbhlaaWP2
set_option linter.unusedVariables false
namespace Go.Proofs.Ytlpfoekbccbhlaa
open Go.RowKit Go.Vc
open Go.Vc.Rep (rd)
open Go.Vc.Own (own)
theorem mem_take_succ {α : Type} {xs : List α} {k : Nat} (h : k < xs.length) {y : α} (hy : y ∈ xs.take (k + 1)) : y ∈ xs.take k ∨ y = xs[k] := by
  rw [List.take_succ_eq_append_getElem h] at hy
  rcases List.mem_append.1 hy with hy | hy
  · exact .inl hy
  · exact .inr (List.mem_singleton.1 hy)
set_option maxHeartbeats 16000000 in
set_option maxRecDepth 100000 in
theorem lawFnMergeFree (v0 : Value) (bs : List UInt8) (w : World) (h0 : rd (fun b => b < w.heap.size) w [v0] bs) :
    Calls Try.prog 4 #[v0] w fun e w' => e = .returned (.bool true) ∧ Below w.heap.size w w' := by
  obtain ⟨a0, c0, rfl, hs0⟩ := rd_slice_elim h0
  have hle := hs0.le
  by_cases hbig : 1048576 < bs.length
  · go_enter Try.func4, Try.ntmps4
    go_wp2
    go_ret
    exact ⟨rfl, Below.refl _ _⟩
  go_enter Try.func4, Try.ntmps4
  go_wp2_with fail
  refine (drawPatchFree_any _ bs w h0 (by omega)).mono ?_
  rintro e w0 ⟨u1, u2, a, b, rfl, ha, hb, HB⟩
  have ha := Rep.lt ha
  have hb := Rep.lt hb
  obtain ⟨r, hr⟩ : ∃ r, freeB a b = r := ⟨_, rfl⟩
  clear h0 hs0 hle hbig
  obtain ⟨haA, haC, haV, _⟩ := rd_slice_elim ha
  subst haV
  obtain ⟨hbA, hbC, hbV, _⟩ := rd_slice_elim hb
  subst hbV
  go_wp2_with fail
  refine (implPatchFree _ _ a b _ ha hb hr).mono ?_
  rintro e w1 ⟨rfl, hb1⟩
  have ha := Rep.lt (Rep.keep ha hb1)
  have hb := Rep.lt (Rep.keep hb hb1)
  have HB := HB.trans (hb1.mono HB.size)
  obtain ⟨wl, hwl⟩ : ∃ wl, wl = w1.alloc (.cells (T8.map Value.string).toArray 9) := ⟨_, rfl⟩
  have hBl : Below w1.heap.size w1 wl := by rw [hwl]; exact (Below.refl _ _).alloc (Nat.le_refl _) _
  have hT : IsSlice (fun b => b < wl.heap.size) wl (some ⟨w1.heap.size, 0, none⟩) 8 T8 := (lit_strs T8 (by rw [hwl]; exact heap_alloc_new _ _) T8_ok (by decide)).mono (fun b hb => by have e : b = w1.heap.size := hb; rw [hwl, e]; simp)
  have HW2 := Lib.hid (show w1.alloc (.cells #[.string ⟨#[49]⟩, .string ⟨#[50]⟩, .string ⟨#[51]⟩, .string ⟨#[52]⟩, .string ⟨#[53]⟩, .string ⟨#[54]⟩, .string ⟨#[55]⟩, .string ⟨#[56]⟩] 9) = wl from hwl.symm)
  have hnd := T8_nodup
  have ht8 : T8.length = 8 := rfl
  obtain ⟨t, htt⟩ : ∃ t, t = T8 := ⟨_, rfl⟩
  rw [← htt] at hT hnd ht8
  have ht := hT.rd
  have hTL := Lib.hid ht8
  rw [ht8] at ht
  have ha := Rep.lt (Rep.keep ha hBl)
  have hb := Rep.lt (Rep.keep hb hBl)
  have HB := HB.trans (hBl.mono HB.size)
  obtain ⟨x, c1, hx⟩ : ∃ x c1, pDo t a = (x, c1) := ⟨_, _, rfl⟩
  obtain ⟨y, c2, hy⟩ : ∃ y c2, pDo t b = (y, c2) := ⟨_, _, rfl⟩
  have I1 := fun (q : World) (v' u' : Value) (hv : rd (fun b => b < q.heap.size) q [v'] t) (hu : rd (fun b => b < q.heap.size) q [u'] a) => implPatchDo v' t u' a q hv hu
  have I2 := fun (q : World) (v' u' : Value) (hv : rd (fun b => b < q.heap.size) q [v'] t) (hu : rd (fun b => b < q.heap.size) q [u'] b) => implPatchDo v' t u' b q hv hu
  rw [hx] at I1
  rw [hy] at I2
  have HX := Lib.hid hx
  have HY := Lib.hid hy
  have HRF := Lib.hid hr
  have SF := fun (q : World) (v' u' : Value) (hv : rd (fun b => b < q.heap.size) q [v'] a) (hu : rd (fun b => b < q.heap.size) q [u'] b) => specPatchFree v' u' a b q hv hu hr
  have hrr : (r != r) = false := by simp
  have hre : (r == r) = true := by simp
  clear hwl hx hy ht8 htt hBl hr
  go_wp2_with fail
  rw [HW2.out]
  refine (I1 _ _ _ ht ha).mono ?_
  rintro e w20 ⟨xv, rfl, hX, hb20⟩
  have hTs := hT
  have hTs := (hTs.keep hb20).mono (fun b h => Nat.lt_of_lt_of_le h hb20.size)
  have ha := Rep.lt (Rep.keep ha hb20)
  have hb := Rep.lt (Rep.keep hb hb20)
  have HB := HB.trans (hb20.mono HB.size)
  have ht := Rep.lt (Rep.keep ht hb20)
  have hX := Rep.lt hX.rd
  obtain ⟨hXA, hXC, hXV, _⟩ := rd_slice_elim hX
  subst hXV
  go_wp2_with fail
  refine (I2 _ _ _ ht hb).mono ?_
  rintro e w2 ⟨yv, rfl, hY, hb2⟩
  have hTs := (hTs.keep hb2).mono (fun b h => Nat.lt_of_lt_of_le h hb2.size)
  have ha := Rep.lt (Rep.keep ha hb2)
  have hb := Rep.lt (Rep.keep hb hb2)
  have HB := HB.trans (hb2.mono HB.size)
  have ht := Rep.lt (Rep.keep ht hb2)
  have hX := Rep.lt (Rep.keep hX hb2)
  have hY := Rep.lt hY.rd
  obtain ⟨hYA, hYC, hYV, _⟩ := rd_slice_elim hY
  subst hYV
  clear I1 I2 hT
  cases r with
  | false =>
    go_wp2_with fail
    refine (SF _ _ _ ha hb).mono ?_
    rintro e w3 ⟨rfl, hb3⟩
    have hTs := (hTs.keep hb3).mono (fun b h => Nat.lt_of_lt_of_le h hb3.size)
    have ha := Rep.lt (Rep.keep ha hb3)
    have hb := Rep.lt (Rep.keep hb hb3)
    have HB := HB.trans (hb3.mono HB.size)
    have ht := Rep.lt (Rep.keep ht hb3)
    have hX := Rep.lt (Rep.keep hX hb3)
    have hY := Rep.lt (Rep.keep hY hb3)
    go_wp2_with fail
    refine (SF _ _ _ ha hb).mono ?_
    rintro e w4 ⟨rfl, hb4⟩
    have hTs := (hTs.keep hb4).mono (fun b h => Nat.lt_of_lt_of_le h hb4.size)
    have ha := Rep.lt (Rep.keep ha hb4)
    have hb := Rep.lt (Rep.keep hb hb4)
    have HB := HB.trans (hb4.mono HB.size)
    have ht := Rep.lt (Rep.keep ht hb4)
    have hX := Rep.lt (Rep.keep hX hb4)
    have hY := Rep.lt (Rep.keep hY hb4)
    go_wp2
    go_ret
    exact ⟨rfl, HB⟩
  | true =>
    cases c1 with
    | false =>
      go_wp2_with fail
      refine (SF _ _ _ ha hb).mono ?_
      rintro e w5 ⟨rfl, hb5⟩
      have hTs := (hTs.keep hb5).mono (fun b h => Nat.lt_of_lt_of_le h hb5.size)
      have ha := Rep.lt (Rep.keep ha hb5)
      have hb := Rep.lt (Rep.keep hb hb5)
      have HB := HB.trans (hb5.mono HB.size)
      have ht := Rep.lt (Rep.keep ht hb5)
      have hX := Rep.lt (Rep.keep hX hb5)
      have hY := Rep.lt (Rep.keep hY hb5)
      go_wp2_with fail
      refine (SF _ _ _ ha hb).mono ?_
      rintro e w6 ⟨rfl, hb6⟩
      have hTs := (hTs.keep hb6).mono (fun b h => Nat.lt_of_lt_of_le h hb6.size)
      have ha := Rep.lt (Rep.keep ha hb6)
      have hb := Rep.lt (Rep.keep hb hb6)
      have HB := HB.trans (hb6.mono HB.size)
      have ht := Rep.lt (Rep.keep ht hb6)
      have hX := Rep.lt (Rep.keep hX hb6)
      have hY := Rep.lt (Rep.keep hY hb6)
      go_wp2
      go_ret
      exact ⟨rfl, HB⟩
    | true =>
      cases c2 with
      | false =>
        go_wp2_with fail
        refine (SF _ _ _ ha hb).mono ?_
        rintro e w7 ⟨rfl, hb7⟩
        have hTs := (hTs.keep hb7).mono (fun b h => Nat.lt_of_lt_of_le h hb7.size)
        have ha := Rep.lt (Rep.keep ha hb7)
        have hb := Rep.lt (Rep.keep hb hb7)
        have HB := HB.trans (hb7.mono HB.size)
        have ht := Rep.lt (Rep.keep ht hb7)
        have hX := Rep.lt (Rep.keep hX hb7)
        have hY := Rep.lt (Rep.keep hY hb7)
        go_wp2_with fail
        refine (SF _ _ _ ha hb).mono ?_
        rintro e w8 ⟨rfl, hb8⟩
        have hTs := (hTs.keep hb8).mono (fun b h => Nat.lt_of_lt_of_le h hb8.size)
        have ha := Rep.lt (Rep.keep ha hb8)
        have hb := Rep.lt (Rep.keep hb hb8)
        have HB := HB.trans (hb8.mono HB.size)
        have ht := Rep.lt (Rep.keep ht hb8)
        have hX := Rep.lt (Rep.keep hX hb8)
        have hY := Rep.lt (Rep.keep hY hb8)
        go_wp2
        go_ret
        exact ⟨rfl, HB⟩
      | true =>
        have hxl : x.length ≤ 10 := text_len10 (pDo_doF HX.out).2.2.1
        have hyl : y.length ≤ 10 := text_len10 (pDo_doF HY.out).2.2.1
        have e1 : IntKind.i64.wrap ((x.length : Int) + (y.length : Int)) = (x.length : Int) + (y.length : Int) := IntWalk.i64_in _ (by omega)
        have e2 : IntKind.i64.wrap ((x.length : Int) + (y.length : Int) - 8) = (x.length : Int) + (y.length : Int) - 8 := IntWalk.i64_in _ (by omega)
        by_cases hlong : (10 : Int) < (x.length : Int) + (y.length : Int) - 8
        · have hd : decide ((10 : Int) < (x.length : Int) + (y.length : Int) - 8) = true := decide_eq_true hlong
          go_wp2_with fail
          refine (SF _ _ _ ha hb).mono ?_
          rintro e w9 ⟨rfl, hb9⟩
          have hTs := (hTs.keep hb9).mono (fun b h => Nat.lt_of_lt_of_le h hb9.size)
          have ha := Rep.lt (Rep.keep ha hb9)
          have hb := Rep.lt (Rep.keep hb hb9)
          have HB := HB.trans (hb9.mono HB.size)
          have ht := Rep.lt (Rep.keep ht hb9)
          have hX := Rep.lt (Rep.keep hX hb9)
          have hY := Rep.lt (Rep.keep hY hb9)
          go_wp2_with fail
          refine (SF _ _ _ ha hb).mono ?_
          rintro e w10 ⟨rfl, hb10⟩
          have hTs := (hTs.keep hb10).mono (fun b h => Nat.lt_of_lt_of_le h hb10.size)
          have ha := Rep.lt (Rep.keep ha hb10)
          have hb := Rep.lt (Rep.keep hb hb10)
          have HB := HB.trans (hb10.mono HB.size)
          have ht := Rep.lt (Rep.keep ht hb10)
          have hX := Rep.lt (Rep.keep hX hb10)
          have hY := Rep.lt (Rep.keep hY hb10)
          go_wp2
          go_ret
          exact ⟨rfl, HB⟩
        have hd : decide ((10 : Int) < (x.length : Int) + (y.length : Int) - 8) = false := decide_eq_false hlong
        go_wp2_with fail
        refine (SF _ _ _ ha hb).mono ?_
        rintro e w11 ⟨rfl, hb11⟩
        have hTs := (hTs.keep hb11).mono (fun b h => Nat.lt_of_lt_of_le h hb11.size)
        have ha := Rep.lt (Rep.keep ha hb11)
        have hb := Rep.lt (Rep.keep hb hb11)
        have HB := HB.trans (hb11.mono HB.size)
        have ht := Rep.lt (Rep.keep ht hb11)
        have hX := Rep.lt (Rep.keep hX hb11)
        have hY := Rep.lt (Rep.keep hY hb11)
        have hpp : patchB a = true ∧ patchB b = true := by
          have h := HRF.out
          unfold freeB at h
          simp only [Bool.and_eq_true] at h
          exact h.1
        have hal : a.length ≤ 8 := patch_len hpp.1
        have hbl : b.length ≤ 8 := patch_len hpp.2
        have HLN := Lib.hid hlong
        have hsa := (rd_slice_of ha).2
        have hsbb := (rd_slice_of hb).2
        have hsz0 := HB.size
        have hs8 : 8 ≤ t.length := by have := hTL.out; omega
        have hs9 : t.length ≤ 8 := by have := hTL.out; omega
        clear hlong hre SF hpp
        obtain ⟨wz, hwz⟩ : ∃ wz : World, wz = w11 := ⟨_, rfl⟩
        subst hwz
        go_wp2
        clear hd hrr
        go_loopw [11] (fun i wr => (∃ k : Nat, k ≤ 8 ∧ i = .int .i64 k ∧ Hid (∀ s, s ∈ t.take k → (∀ h, h ∈ a → s ∉ h.more) ∧ ∀ h, h ∈ b → s ∉ h.more)) ∧ Below wz.heap.size wz wr) (fun i _ => 8 - (intOf i).toNat)
        case atStart => exact ⟨⟨0, by omega, rfl, by show ∀ s, _ → _; intro s hs; simp at hs⟩, Below.refl _ _⟩
        case round =>
          obtain ⟨⟨k, hk, rfl, HA⟩, hbr⟩ := hrel
          obtain ⟨wx, hwx⟩ : ∃ wx : World, wx = wr := ⟨_, rfl⟩
          subst hwx
          have hsx := hbr.size
          have hBx := HB.trans (hbr.mono hsz0)
          by_cases hlt : k < 8
          · obtain ⟨gt, offt, hgt, hct, hzt⟩ := hTs.str (i := k) (by omega)
            obtain ⟨s, hs⟩ : ∃ s, s = t[k]'(by omega) := ⟨_, rfl⟩
            rw [← hs] at hct hzt
            have HS := Lib.hid hs
            simp only [Option.some.injEq, Addr.mk.injEq, and_true] at hgt
            obtain ⟨hg1, hg2⟩ := hgt
            subst hg1
            subst hg2
            rw [Nat.zero_add] at hct
            have hct := keepc hct hbr
            have hXx := Rep.lt (Rep.keep hX hbr)
            have hYx := Rep.lt (Rep.keep hY hbr)
            clear hs
            obtain ⟨m1, hm1⟩ : ∃ m, manyT s x = m := ⟨_, rfl⟩
            obtain ⟨m2, hm2⟩ : ∃ m, manyT s y = m := ⟨_, rfl⟩
            by_cases g1 : 1 < m1
            · have g1d : decide ((1 : Int) < (m1 : Int)) = true := decide_eq_true (by omega)
              go_wp2_with fail
              refine (smMany_is _ x s _ hXx (by omega) hm1).mono ?_
              rintro e w9 ⟨rfl, hb9⟩
              clear hm1 g1
              go_wp2
              go_ret
              exact ⟨rfl, hBx.trans (hb9.mono hBx.size)⟩
            have g1d : decide ((1 : Int) < (m1 : Int)) = false := decide_eq_false (by omega)
            go_wp2_with fail
            refine (smMany_is _ x s _ hXx (by omega) hm1).mono ?_
            rintro e w9 ⟨rfl, hb9⟩
            clear hm1 g1
            have hct := keepc hct hb9
            have hYx := Rep.lt (Rep.keep hYx hb9)
            have hB9 := hBx.trans (hb9.mono hBx.size)
            have hr9 := hbr.trans (hb9.mono hsx)
            by_cases g2 : 1 < m2
            · have g2d : decide ((1 : Int) < (m2 : Int)) = true := decide_eq_true (by omega)
              go_wp2_with fail
              refine (smMany_is _ y s _ hYx (by omega) hm2).mono ?_
              rintro e w8 ⟨rfl, hb8⟩
              clear hm2 g2
              go_wp2
              go_ret
              exact ⟨rfl, hB9.trans (hb8.mono hB9.size)⟩
            have g2d : decide ((1 : Int) < (m2 : Int)) = false := decide_eq_false (by omega)
            go_wp2_with fail
            refine (smMany_is _ y s _ hYx (by omega) hm2).mono ?_
            rintro e w8 ⟨rfl, hb8⟩
            clear hm2 g2
            have hct := keepc hct hb8
            have hB8 := hB9.trans (hb8.mono hB9.size)
            have hr8 := hr9.trans (hb8.mono hr9.size)
            have hs8x := hr8.size
            clear hb8 hb9 hr9 hB9 hYx hXx
            go_wp2
            clear g1d g2d
            go_loopw [12] (fun i wr => (∃ j : Nat, j ≤ a.length ∧ i = .int .i64 j ∧ Hid (∀ h, h ∈ a.take j → s ∉ h.more)) ∧ Below w8.heap.size w8 wr) (fun i _ => a.length - (intOf i).toNat)
            case atStart => exact ⟨⟨0, by omega, rfl, by show ∀ s, _ → _; intro s hs; simp at hs⟩, Below.refl _ _⟩
            case round =>
              obtain ⟨⟨j, hj, rfl, HJ⟩, hb2⟩ := hrel
              obtain ⟨wy, hwy⟩ : ∃ wy : World, wy = wr := ⟨_, rfl⟩
              subst hwy
              have hsy := hb2.size
              have hry := hr8.trans (hb2.mono hs8x)
              have hBy := hB8.trans (hb2.mono hB8.size)
              have hcy := keepc hct hb2
              by_cases hlj : j < a.length
              · obtain ⟨g, off, d1, f1, d2, f2, hag, q0, q1, q2, hi0, hl1, hl2⟩ := (hsa.keep hry).hunk hlj
                subst hag
                have HJN := Lib.hid (fun (hn : s ∉ a[j].more) (h : Hunk) (hh : h ∈ a.take (j + 1)) => show s ∉ h.more from by
                  rcases mem_take_succ hlj hh with h1 | h1
                  · exact HJ.out h h1
                  · rw [h1]; exact hn)
                obtain ⟨h, hh⟩ : ∃ h, h = a[j] := ⟨_, rfl⟩
                rw [← hh] at q0 q1 q2 hl2 HJN
                have z1 := BW.cell q2
                have z2 := BW.cell hcy
                clear hh hl1 q0 q1
                cases hm : hasS s h.more with
                | true =>
                  go_wp2
                  refine wp_region_bw (by kernel_rfl) (by kernel_rfl) ?_
                  repeat (go_big_quiet_step ((first | (go_at_call 11; exact Calls.bw (smHas_is _ h.more s _ (hl2.bw _).rd hm)))))
                  refine wpQuiet_nil ?_
                  rintro w1 ⟨⟨_, hbw⟩, rfl⟩
                  go_wp2
                  go_ret
                  exact ⟨rfl, hBy.trans (hbw.mono hBy.size)⟩
                | false =>
                  have HZ := Lib.hid (HJN.out (fun hmem => hasS_f hm s hmem rfl))
                  go_wp2
                  refine wp_region_bw (by kernel_rfl) (by kernel_rfl) ?_
                  repeat (go_big_quiet_step ((first | (go_at_call 11; exact Calls.bw (smHas_is _ h.more s _ (hl2.bw _).rd hm)))))
                  refine wpQuiet_nil ?_
                  rintro w1 ⟨⟨_, hbw⟩, rfl⟩
                  clear hm
                  go_wp2
                  go_roundw
                  case rel => exact ⟨⟨j + 1, by omega, by go_num, HZ.out⟩, hb2.trans (hbw.mono hsy)⟩
                  case measure => simp [intOf] <;> omega
              · have HZA : Hid (∀ h, h ∈ a → s ∉ h.more) := fun h hh => HJ.out h (by rw [List.take_of_length_le (by omega)]; exact hh)
                clear HJ
                go_wp2
                go_loopw [13] (fun i wr => (∃ j : Nat, j ≤ b.length ∧ i = .int .i64 j ∧ Hid (∀ h, h ∈ b.take j → s ∉ h.more)) ∧ Below wy.heap.size wy wr) (fun i _ => b.length - (intOf i).toNat)
                case atStart => exact ⟨⟨0, by omega, rfl, by show ∀ s, _ → _; intro s hs; simp at hs⟩, Below.refl _ _⟩
                case round =>
                  obtain ⟨⟨i, hi, rfl, HJ⟩, hb3⟩ := hrel
                  obtain ⟨wu, hwu⟩ : ∃ wu : World, wu = wr := ⟨_, rfl⟩
                  subst hwu
                  have hsu := hb3.size
                  have hru := hry.trans (hb3.mono hry.size)
                  have hBu := hBy.trans (hb3.mono hBy.size)
                  have hcu := keepc hcy hb3
                  by_cases hli : i < b.length
                  · obtain ⟨g, off, d1, f1, d2, f2, hag, q0, q1, q2, hi0, hl1, hl2⟩ := (hsbb.keep hru).hunk hli
                    subst hag
                    have HJN := Lib.hid (fun (hn : s ∉ b[i].more) (h : Hunk) (hh : h ∈ b.take (i + 1)) => show s ∉ h.more from by
                      rcases mem_take_succ hli hh with h1 | h1
                      · exact HJ.out h h1
                      · rw [h1]; exact hn)
                    obtain ⟨h, hh⟩ : ∃ h, h = b[i] := ⟨_, rfl⟩
                    rw [← hh] at q0 q1 q2 hl2 HJN
                    have z1 := BW.cell q2
                    have z2 := BW.cell hcu
                    clear hh hl1 q0 q1
                    cases hm : hasS s h.more with
                    | true =>
                      go_wp2
                      refine wp_region_bw (by kernel_rfl) (by kernel_rfl) ?_
                      repeat (go_big_quiet_step ((first | (go_at_call 11; exact Calls.bw (smHas_is _ h.more s _ (hl2.bw _).rd hm)))))
                      refine wpQuiet_nil ?_
                      rintro w1 ⟨⟨_, hbw⟩, rfl⟩
                      go_wp2
                      go_ret
                      exact ⟨rfl, hBu.trans (hbw.mono hBu.size)⟩
                    | false =>
                      have HZ := Lib.hid (HJN.out (fun hmem => hasS_f hm s hmem rfl))
                      go_wp2
                      refine wp_region_bw (by kernel_rfl) (by kernel_rfl) ?_
                      repeat (go_big_quiet_step ((first | (go_at_call 11; exact Calls.bw (smHas_is _ h.more s _ (hl2.bw _).rd hm)))))
                      refine wpQuiet_nil ?_
                      rintro w1 ⟨⟨_, hbw⟩, rfl⟩
                      clear hm
                      go_wp2
                      go_roundw
                      case rel => exact ⟨⟨i + 1, by omega, by go_num, HZ.out⟩, hb3.trans (hbw.mono hsu)⟩
                      case measure => simp [intOf] <;> omega
                  · have HZB : Hid (∀ h, h ∈ b → s ∉ h.more) := fun h hh => HJ.out h (by rw [List.take_of_length_le (by omega)]; exact hh)
                    have HZ : Hid (∀ s, s ∈ t.take (k + 1) → (∀ h, h ∈ a → s ∉ h.more) ∧ ∀ h, h ∈ b → s ∉ h.more) := fun s' hs' => by
                      rcases mem_take_succ (by omega) hs' with h1 | h1
                      · exact HA.out s' h1
                      · rw [h1, ← HS.out]; exact ⟨HZA.out, HZB.out⟩
                    clear HA HJ
                    go_wp2
                    go_roundw
                    case rel => exact ⟨⟨k + 1, by omega, by go_num, HZ.out⟩, hru⟩
                    case measure => simp [intOf] <;> omega
          · obtain ⟨z, hz1, hz2⟩ := free_law hnd HRF.out HX.out HY.out (by have := HLN.out; omega) (fun h hh s hs => (HA.out s (by rw [List.take_of_length_le (by omega)]; exact hs)).1 h hh) (fun h hh s hs => (HA.out s (by rw [List.take_of_length_le (by omega)]; exact hs)).2 h hh)
            obtain ⟨d, hd⟩ : ∃ d, d = shiftT a b := ⟨_, rfl⟩
            rw [← hd] at hz2
            have IM := fun (q : World) (v' u' x' : Value) (h1 : rd (fun b => b < q.heap.size) q [v'] t) (h2 : rd (fun b => b < q.heap.size) q [u'] x) (h3 : rd (fun b => b < q.heap.size) q [x'] y) => implMergeText v' u' x' t x y q h1 h2 h3
            rw [hz1] at IM
            have IS := fun (q : World) (v' u' : Value) (h1 : rd (fun b => b < q.heap.size) q [v'] a) (h2 : rd (fun b => b < q.heap.size) q [u'] b) => implPatchShift v' u' a b q h1 h2
            rw [← hd] at IS
            have IP := fun (q : World) (v' u' : Value) (hv : rd (fun b => b < q.heap.size) q [v'] x) (hu : rd (fun b => b < q.heap.size) q [u'] d) => implPatchDo v' x u' d q hv hu
            rw [hz2] at IP
            have ht := Rep.lt (Rep.keep ht hbr)
            have ha := Rep.lt (Rep.keep ha hbr)
            have hb := Rep.lt (Rep.keep hb hbr)
            have hX := Rep.lt (Rep.keep hX hbr)
            have hY := Rep.lt (Rep.keep hY hbr)
            clear hd hz1 hz2 HA hTs hsa hsbb e1 e2 hbr
            have HB := hBx
            clear hBx
            go_wp2_with fail
            refine (IM _ _ _ _ ht hX hY).mono ?_
            rintro e w41 ⟨zv, rfl, hZ, hb41⟩
            have ht := Rep.lt (Rep.keep ht hb41)
            have ha := Rep.lt (Rep.keep ha hb41)
            have hb := Rep.lt (Rep.keep hb hb41)
            have hX := Rep.lt (Rep.keep hX hb41)
            have hY := Rep.lt (Rep.keep hY hb41)
            have HB := HB.trans (hb41.mono HB.size)
            have hZ := Rep.lt hZ.rd
            obtain ⟨hZA, hZC, hZV, _⟩ := rd_slice_elim hZ
            subst hZV
            go_wp2_with fail
            refine (IS _ _ _ ha hb).mono ?_
            rintro e w42 ⟨dv, rfl, hD, hb42⟩
            have ht := Rep.lt (Rep.keep ht hb42)
            have ha := Rep.lt (Rep.keep ha hb42)
            have hb := Rep.lt (Rep.keep hb hb42)
            have hX := Rep.lt (Rep.keep hX hb42)
            have hY := Rep.lt (Rep.keep hY hb42)
            have HB := HB.trans (hb42.mono HB.size)
            have hZ := Rep.lt (Rep.keep hZ hb42)
            have hD := Rep.lt hD.rd
            obtain ⟨hDA, hDC, hDV, _⟩ := rd_slice_elim hD
            subst hDV
            go_wp2_with fail
            refine (IP _ _ _ hX hD).mono ?_
            rintro e w43 ⟨qv, rfl, hQ, hb43⟩
            have ht := Rep.lt (Rep.keep ht hb43)
            have ha := Rep.lt (Rep.keep ha hb43)
            have hb := Rep.lt (Rep.keep hb hb43)
            have hX := Rep.lt (Rep.keep hX hb43)
            have hY := Rep.lt (Rep.keep hY hb43)
            have HB := HB.trans (hb43.mono HB.size)
            have hZ := Rep.lt (Rep.keep hZ hb43)
            have hD := Rep.lt (Rep.keep hD hb43)
            have hQ := Rep.lt hQ.rd
            obtain ⟨hQA, hQC, hQV, _⟩ := rd_slice_elim hQ
            subst hQV
            go_wp2_with fail
            refine (smTexts_c _ _ z z _ hZ hQ (decide_eq_true rfl)).mono ?_
            rintro e w44 ⟨rfl, hb44⟩
            have ht := Rep.lt (Rep.keep ht hb44)
            have ha := Rep.lt (Rep.keep ha hb44)
            have hb := Rep.lt (Rep.keep hb hb44)
            have hX := Rep.lt (Rep.keep hX hb44)
            have hY := Rep.lt (Rep.keep hY hb44)
            have HB := HB.trans (hb44.mono HB.size)
            have hZ := Rep.lt (Rep.keep hZ hb44)
            have hD := Rep.lt (Rep.keep hD hb44)
            have hQ := Rep.lt (Rep.keep hQ hb44)
            go_wp2
            go_ret
            exact ⟨rfl, HB⟩
end Go.Proofs.Ytlpfoekbccbhlaa
