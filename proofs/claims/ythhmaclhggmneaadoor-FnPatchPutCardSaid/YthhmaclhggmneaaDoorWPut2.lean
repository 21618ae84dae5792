/-
  Walks: a patch as lines, as the program writes it.
-/
import Derived.Test.YthhmaclhggmneaaDoorBld
import Derived.Test.YthhmaclhggmneaaDoorWP1
set_option linter.unusedVariables false
namespace Go.Vc
theorem data_app (a b : ByteArray) : (a ++ b).data.toList = a.data.toList ++ b.data.toList := by simp
theorem size_app (a b : ByteArray) : (a ++ b).size = a.size + b.size := by simp
theorem ln_is (c : UInt8) (s : ByteArray) : ((⟨#[c]⟩ : ByteArray) ++ s ++ ⟨#[10]⟩).data.toList = ln c s := by
  rw [data_app, data_app]; simp [ln]
theorem head_is (n : Int) : ((⟨#[64]⟩ : ByteArray) ++ bytesB (Lib.itoa n) ++ ⟨#[10]⟩).data.toList = headL n := by
  rw [data_app, data_app, bytesB_list]; simp [headL]
theorem ln_size (c : UInt8) (s : ByteArray) : ((⟨#[c]⟩ : ByteArray) ++ s ++ ⟨#[10]⟩).size = s.size + 2 := by
  rw [size_app, size_app]; show 1 + s.size + 1 = _; omega
theorem head_size {n : Int} (h0 : 0 ≤ n) (h1 : n ≤ 10) : ((⟨#[64]⟩ : ByteArray) ++ bytesB (Lib.itoa n) ++ ⟨#[10]⟩).size ≤ 4 := by
  have := itoa_len h0 h1
  rw [size_app, size_app, bytesB_size]; show 1 + _ + 1 ≤ _; omega
theorem line_size {t : List ByteArray} (h : textB t = true) {i : Nat} (hi : i < t.length) : t[i].size ≤ 12 := by
  have h1 := List.all_eq_true.1 (text_all h) _ (List.getElem_mem hi)
  unfold lineB at h1
  rw [Bool.and_eq_true, decide_eq_true_eq] at h1
  exact h1.1
end Go.Vc
namespace Go.Proofs.YthhmaclhggmneaaDoor
open Go.RowKit Go.Vc
open Go.Vc.Rep (rd)
open Go.Vc.Own (own)
set_option maxHeartbeats 8000000 in
set_option maxRecDepth 100000 in
theorem patchPut_any {S : Nat → Prop} (v : Value) (d : List Hunk) (w : World) (hv : rd S w [v] d) (hd : patchB d = true) :
    Calls Tryd.prog 42 #[v] w fun e w' => e = .returned (.string (putB d)) ∧ Below w.heap.size w w' := by
  have hv := Rep.lt hv
  obtain ⟨a, cap, rfl, hs⟩ := rd_slice_elim hv
  have hle := hs.le
  have hpl := putL_len hd
  have HP := Lib.hid (fun (i : Nat) (hi : i < d.length) => patch_at hd hi)
  have hd8 := patch_len hd
  clear hd
  have hB0 := Bld.new w
  have hb0 := (Below.refl w.heap.size w).alloc (Nat.le_refl _) (.cells #[.pointer none, .slice none 0 0] 110)
  go_enter Tryd.func42, Tryd.ntmps42
  go_wp2
  go_loopw [12] (fun i wr => (∃ (k : Nat) (acc : List UInt8), k ≤ d.length ∧ i = .int .i64 k ∧ Bld w.heap.size w.heap.size acc wr ∧ Hid (putL d = acc ++ (d.drop k).flatMap hunkL)) ∧ Below w.heap.size w wr ∧ w.heap.size < wr.heap.size) (fun i _ => d.length - (intOf i).toNat)
  case atStart => exact ⟨⟨0, [], by omega, rfl, hB0, rfl⟩, hb0, by simp⟩
  case round =>
    clear hB0 hb0
    obtain ⟨⟨k, acc, hk, rfl, hB, HA⟩, hb, hsr⟩ := hrel
    by_cases hlt : k < d.length
    · have HN := Lib.hid (flat_next HA.out hlt)
      have hal := flat_le HA.out
      have hal2 : ((acc ++ hunkL d[k])).length ≤ (putL d).length := flat_le HN.out
      obtain ⟨p0, p1, p2, p3, _⟩ := HP.out k hlt
      obtain ⟨g, off, a1, c1, a2, c2, hag, hc0, hc1, hc2, hi0, hs1, hs2⟩ := hs.hunk hlt
      subst hag
      obtain ⟨x, hx⟩ : ∃ x, x = d[k] := ⟨_, rfl⟩
      rw [← hx] at hc0 hc1 hc2 hi0 hs1 hs2 p0 p1 p2 p3 HN hal2
      have hc0 := keepc hc0 hb
      have hc1 := keepc hc1 hb
      have hc2 := keepc hc2 hb
      have hle1 := hs1.le
      have hle2 := hs2.le
      obtain ⟨A1, hA1⟩ : ∃ A, A = (acc ++ headL x.at_) ++ x.less.flatMap (ln 45) := ⟨_, rfl⟩
      obtain ⟨A2, hA2⟩ : ∃ A, A = A1 ++ x.more.flatMap (ln 43) := ⟨_, rfl⟩
      have hAx : acc ++ hunkL x = A2 := by rw [hA2, hA1]; unfold hunkL; simp
      rw [hAx] at HN hal2
      have hA12 : A1.length ≤ A2.length := by rw [hA2]; simp
      have HG1 : Hid (A1 = (acc ++ headL x.at_) ++ (x.less.drop 0).flatMap (ln 45)) := by show A1 = _; rw [hA1]; rfl
      have HG2 : Hid (A2 = A1 ++ (x.more.drop 0).flatMap (ln 43)) := by show A2 = _; rw [hA2]; rfl
      obtain ⟨wo, hwo⟩ : ∃ wo : World, wo = wr := ⟨_, rfl⟩
      subst hwo
      clear hx hA1 hA2 hAx
      obtain ⟨t, ht⟩ : ∃ t, t = bytesB (Lib.itoa x.at_) := ⟨_, rfl⟩
      have HIT := Lib.hid (fun w => itoa_is x.at_ p0 p1 w)
      have htz : t.size ≤ 2 := by rw [ht, bytesB_size]; exact itoa_len p0 p1
      have htd : ((⟨#[64]⟩ : ByteArray) ++ t ++ ⟨#[10]⟩).data.toList = headL x.at_ := by rw [ht]; exact head_is x.at_
      have hts : ((⟨#[64]⟩ : ByteArray) ++ t ++ ⟨#[10]⟩).size = t.size + 2 := ln_size 64 t
      rw [← ht] at HIT
      have HTD := Lib.hid htd
      have HTS := Lib.hid hts
      clear ht htd hts
      go_wp2_with fail
      refine (HIT.out _).mono ?_
      rintro e w3 ⟨rfl, hw3⟩
      obtain ⟨wb, hwb⟩ : ∃ wb, wb = wo.alloc (.cells #[.int .i64 x.at_, .slice a1 x.less.length c1, .slice a2 x.more.length c2] 71) := ⟨_, rfl⟩
      rw [← hwb] at hw3
      subst hw3
      have hBb : Bld w.heap.size w.heap.size acc w3 := by rw [hwb]; exact hB.alloc _
      have hbb : Below wo.heap.size wo w3 := by rw [hwb]; exact (Below.refl _ _).alloc (Nat.le_refl _) _
      have hsb : wo.heap.size < w3.heap.size := by rw [hwb]; simp
      have hrow : w3.heap[wo.heap.size]? = some (.cells #[.int .i64 x.at_, .slice a1 x.less.length c1, .slice a2 x.more.length c2] 71 (0, 0)) := by rw [hwb]; exact heap_alloc_new _ _
      clear hwb
      have hBw := hb.trans (hbb.mono hb.size)
      go_wp2_with fail
      have hw1 : acc.length + ((⟨#[64]⟩ : ByteArray) ++ t ++ ⟨#[10]⟩).size ≤ 100000 := by rw [HTS.out]; omega
      have hw2 : w.heap.size ≤ w3.heap.size := by omega
      have hWR := hBb.write ((⟨#[64]⟩ : ByteArray) ++ t ++ ⟨#[10]⟩) hw1 hw2
      refine hWR.mono ?_
      clear hWR hw1 hw2
      rintro e w4 ⟨rfl, hB4, hb4, hk4⟩
      rw [HTD.out] at hB4
      have hrow4 := hk4 wo.heap.size _ hrow (by simp; omega) (by intro c fz e; injection e with _ e _; exact absurd e (by decide))
      have hBw4 := hBw.trans hb4
      have hs4 := hb4.size
      obtain ⟨hx, hhx⟩ : ∃ hx, hx = wo.heap.size := ⟨_, rfl⟩
      rw [← hhx] at hrow4
      have hhx1 : w.heap.size < hx := by omega
      have hhx2 : hx < w4.heap.size := by omega
      have y1 := cell_of_row w4 hx 1 _ _ (0, 0) hrow4
      simp at y1
      try rw [← hhx]
      clear hB hb hBb hbb hsb hrow hBw hk4 hb4 hs4 hc0 hc1 hc2 hhx hsr
      go_wp2
      go_loopw [25] (fun i wq => (∃ (n : Nat) (acc2 : List UInt8), n ≤ x.less.length ∧ i = .int .i64 n ∧ Bld w.heap.size w.heap.size acc2 wq ∧ Hid (A1 = acc2 ++ (x.less.drop n).flatMap (ln 45)) ∧ wq.heap[hx]? = some (.cells #[.int .i64 x.at_, .slice a1 x.less.length c1, .slice a2 x.more.length c2] 71 (0, 0))) ∧ Below w.heap.size w wq ∧ hx < wq.heap.size) (fun i _ => x.less.length - (intOf i).toNat)
      case atStart => exact ⟨⟨0, _, by omega, rfl, hB4, HG1.out, hrow4⟩, hBw4, hhx2⟩
      case round =>
        clear hB4 hBw4 hrow4 hhx2
        obtain ⟨⟨n, acc2, hn, rfl, hB, HI, hrow⟩, hbq, hhx2⟩ := hrel
        have hal3 := flat_le HI.out
        by_cases hln : n < x.less.length
        · have HM := Lib.hid (flat_next HI.out hln)
          have hlz := line_size p2 hln
          obtain ⟨g5, off5, hag5, hd5, _⟩ := (hs1.keep hbq).str hln
          subst hag5
          obtain ⟨s, hsx⟩ : ∃ s, s = x.less[n] := ⟨_, rfl⟩
          rw [← hsx] at hd5 HM hlz
          have hsz2 := ln_size 45 s
          have HSZ := Lib.hid hsz2
          clear hsx hsz2
          go_wp2_with fail
          have hw1 : acc2.length + ((⟨#[45]⟩ : ByteArray) ++ s ++ ⟨#[10]⟩).size ≤ 100000 := by rw [HSZ.out]; omega
          have hw2 : w.heap.size ≤ wr.heap.size := by omega
          have hWR := hB.write ((⟨#[45]⟩ : ByteArray) ++ s ++ ⟨#[10]⟩) hw1 hw2
          refine hWR.mono ?_
          clear hWR hw1 hw2
          rintro e w5 ⟨rfl, hB5, hb5, hk5⟩
          rw [ln_is] at hB5
          have hrow5 := hk5 hx _ hrow (by simp; omega) (by intro c fz e; injection e with _ e _; exact absurd e (by decide))
          have hs5 := hb5.size
          clear hk5 hrow
          go_wp2
          go_roundw
          case rel => exact ⟨⟨n + 1, _, by omega, by go_num, hB5, HM.out, hrow5⟩, hbq.trans hb5, by omega⟩
          case measure => simp [intOf] <;> omega
        · have HE := Lib.hid (flat_end HI.out hln)
          obtain ⟨wo2, hwo2⟩ : ∃ wo : World, wo = wr := ⟨_, rfl⟩
          subst hwo2
          have y2 := cell_of_row wo2 hx 2 _ _ (0, 0) hrow
          simp at y2
          have hBX : Bld w.heap.size w.heap.size A1 wo2 := by rw [HE.out]; exact hB
          have hrX := hrow
          have hbX := hbq
          clear hB hrow hbq HE HI hal3
          go_wp2
          go_loopw [37] (fun i wq => (∃ (n : Nat) (acc2 : List UInt8), n ≤ x.more.length ∧ i = .int .i64 n ∧ Bld w.heap.size w.heap.size acc2 wq ∧ Hid (A2 = acc2 ++ (x.more.drop n).flatMap (ln 43)) ∧ wq.heap[hx]? = some (.cells #[.int .i64 x.at_, .slice a1 x.less.length c1, .slice a2 x.more.length c2] 71 (0, 0))) ∧ Below w.heap.size w wq ∧ hx < wq.heap.size) (fun i _ => x.more.length - (intOf i).toNat)
          case atStart => exact ⟨⟨0, _, by omega, rfl, hBX, HG2.out, hrX⟩, hbX, hhx2⟩
          case round =>
            clear hBX hbX hrX hhx2
            obtain ⟨⟨n, acc2, hn, rfl, hB, HI, hrow⟩, hbq, hhx2⟩ := hrel
            have hal3 := flat_le HI.out
            by_cases hln : n < x.more.length
            · have HM := Lib.hid (flat_next HI.out hln)
              have hlz := line_size p3 hln
              obtain ⟨g5, off5, hag5, hd5, _⟩ := (hs2.keep hbq).str hln
              subst hag5
              obtain ⟨s, hsx⟩ : ∃ s, s = x.more[n] := ⟨_, rfl⟩
              rw [← hsx] at hd5 HM hlz
              have hsz2 := ln_size 43 s
              have HSZ := Lib.hid hsz2
              clear hsx hsz2
              go_wp2_with fail
              have hw1 : acc2.length + ((⟨#[43]⟩ : ByteArray) ++ s ++ ⟨#[10]⟩).size ≤ 100000 := by rw [HSZ.out]; omega
              have hw2 : w.heap.size ≤ wr.heap.size := by omega
              have hWR := hB.write ((⟨#[43]⟩ : ByteArray) ++ s ++ ⟨#[10]⟩) hw1 hw2
              refine hWR.mono ?_
              clear hWR hw1 hw2
              rintro e w5 ⟨rfl, hB5, hb5, hk5⟩
              rw [ln_is] at hB5
              have hrow5 := hk5 hx _ hrow (by simp; omega) (by intro c fz e; injection e with _ e _; exact absurd e (by decide))
              have hs5 := hb5.size
              clear hk5 hrow
              go_wp2
              go_roundw
              case rel => exact ⟨⟨n + 1, _, by omega, by go_num, hB5, HM.out, hrow5⟩, hbq.trans hb5, by omega⟩
              case measure => simp [intOf] <;> omega
            · have HE := Lib.hid (flat_end HI.out hln)
              have hBX : Bld w.heap.size w.heap.size A2 wr := by rw [HE.out]; exact hB
              go_wp2
              go_roundw
              case rel => exact ⟨⟨k + 1, _, by omega, by go_num, hBX, HN.out⟩, hbq, by omega⟩
              case measure => simp [intOf] <;> omega
    · have HE := Lib.hid (flat_end HA.out hlt)
      have HPB : putB d = bytesB acc := congrArg bytesB HE.out
      go_wp2_with fail
      refine (hB.text (by omega)).mono ?_
      rintro e w5 ⟨rfl, hb5⟩
      go_wp2
      go_ret
      exact ⟨by rw [HPB]; rfl, hb.trans hb5⟩
set_option maxHeartbeats 2000000 in
theorem implPatchPut {S : Nat → Prop} (v : Value) (d : List Hunk) (w : World) (hv : rd S w [v] d) :
    Calls Tryd.prog 14 #[v] w fun e w' => e = .returned (.string (patchPut d)) ∧ Below w.heap.size w w' := by
  cases hd : patchB d with
  | false =>
    have HP : patchPut d = bytesB [] := by unfold patchPut; rw [if_neg (by rw [hd]; simp)]
    go_enter Tryd.func14, Tryd.ntmps14
    go_wp2_with fail
    refine (patchOk_is _ d _ hv hd).mono ?_
    rintro e w1 ⟨rfl, hb1⟩
    go_wp2
    go_ret
    exact ⟨by rw [HP]; rfl, hb1⟩
  | true =>
    have HP : patchPut d = putB d := by unfold patchPut; rw [if_pos hd]
    go_enter Tryd.func14, Tryd.ntmps14
    go_wp2_with fail
    refine (patchOk_is _ d _ hv hd).mono ?_
    rintro e w1 ⟨rfl, hb1⟩
    go_wp2_with fail
    refine (patchPut_any _ d _ (Rep.keep (Rep.lt hv) hb1) hd).mono ?_
    rintro e w2 ⟨rfl, hb2⟩
    go_wp2
    go_ret
    exact ⟨by rw [HP]; rfl, hb1.trans (hb2.mono hb1.size)⟩
end Go.Proofs.YthhmaclhggmneaaDoor
