/-
  The walk of a law: MergeDiff.
-/
import Derived.Test.YtlokkbllplhlbaaLMS
import Derived.Test.YtlokkbllplhlbaaPlMD
import Derived.Test.YtlokkbllplhlbaaWP2
set_option linter.unusedVariables false
namespace Go.Proofs.Ytlokkbllplhlbaa
open Go.RowKit Go.Vc
open Go.Vc.Rep (rd)
open Go.Vc.Own (own)

set_option maxHeartbeats 1000000 in
theorem drawMergeText_any {S : Nat → Prop} (v : Value) (bs : List UInt8) (w : World) (hv : rd S w [v] bs) (hl : bs.length ≤ 1048576) :
    Calls Try.prog 35 #[v] w (ThreeTexts w) := by
  go_enter Try.func35, Try.ntmps35
  go_wp2_with fail
  refine (l30Three_any v bs w hv hl).mono ?_
  rintro e w1 ⟨v, u, x, os, xs, ys, rfl, r⟩
  go_wp2
  refine bodyPost_ret (results_tmp3 rfl _ _ _) rfl ?_
  exact ⟨v, u, x, os, xs, ys, rfl, r⟩
set_option maxHeartbeats 1000000 in
theorem implDiffOf_ok {S T : Nat → Prop} (v u : Value) (xs ys : List ByteArray) (w : World) (hv : rd S w [v] xs) (hu : rd T w [u] ys) (hx : textB xs = true) (hy : textB ys = true) :
    Calls Try.prog 37 #[v, u] w fun e w' => ∃ v', e = .returned v' ∧ Fresh w.heap.size w'.heap.size w' [v'] (diffT xs ys) ∧ Below w.heap.size w w' := by
  have l1 := text_len10 hx
  have l2 := text_len10 hy
  go_enter Try.func37, Try.ntmps37
  go_wp2_with fail
  refine (textOk_is _ _ _ hv hx).mono ?_
  rintro e w' ⟨rfl, rfl⟩
  go_wp2_with fail
  refine (textOk_is _ _ _ hu hy).mono ?_
  rintro e w' ⟨rfl, rfl⟩
  go_wp2_with fail
  refine (diff_any _ _ xs ys _ hv hu l1 l2).mono ?_
  rintro e w1 ⟨v', rfl, hF, hb⟩
  go_wp2
  go_ret
  exact ⟨v', rfl, hF, hb⟩
set_option maxHeartbeats 1000000 in
theorem implDiffMany_ok {S T : Nat → Prop} (v u : Value) (xs ys : List ByteArray) (w : World) (hv : rd S w [v] xs) (hu : rd T w [u] ys) (hx : textB xs = true) (hy : textB ys = true) {d : Int} (hd : dist xs ys = d) :
    Calls Try.prog 38 #[v, u] w fun e w' => e = .returned (.int .i64 d) ∧ Below w.heap.size w w' := by
  have l1 := text_len10 hx
  have l2 := text_len10 hy
  obtain ⟨a, cap, rfl, hs⟩ := rd_slice_elim (Rep.lt hv)
  obtain ⟨b, cbp, rfl, ht⟩ := rd_slice_elim (Rep.lt hu)
  have e0 : lcAt xs ys 0 0 = (lc xs ys : Int) := by simp [lcAt]
  have e1 := lcAt_le xs ys 0 0
  have HD : Hid (d = (xs.length : Int) + ys.length - 2 * lcAt xs ys 0 0) := by show _ = _; rw [← hd, e0]; rfl
  clear e0 hd
  go_enter Try.func38, Try.ntmps38
  go_wp2_with fail
  refine (textOk_is _ _ _ hs.rd hx).mono ?_
  rintro e w' ⟨rfl, rfl⟩
  go_wp2_with fail
  refine (textOk_is _ _ _ ht.rd hy).mono ?_
  rintro e w' ⟨rfl, rfl⟩
  go_wp2_with fail
  refine (lcs_any _ _ xs ys _ hs.rd ht.rd l1 l2).mono ?_
  rintro e w1 ⟨v', rfl, hF, hb⟩
  obtain ⟨g, c, rfl, hT⟩ := tab_shape hF
  obtain ⟨b0, n0, hc0, hr0⟩ := tab_row (r := 0) hT (by omega)
  obtain ⟨g1, off1, rfl, hc1⟩ := row_int hr0 (c := 0) (by omega) (.inl (Nat.le_refl _))
  obtain ⟨z, hz⟩ : ∃ z, z = lcAt xs ys 0 0 := ⟨_, rfl⟩
  rw [← hz] at hc1 e1 HD
  rw [Nat.add_zero] at hc1
  clear hz hF hT hr0
  go_wp2
  go_ret
  exact ⟨ret_int (by rw [HD.out]), hb⟩

theorem implPatchDo_is {S T : Nat → Prop} (v : Value) (t : List ByteArray) (u : Value) (d : List Hunk) (w : World) (hv : rd S w [v] t) (hu : rd T w [u] d) {r : List ByteArray} {c : Bool} (h : pDo t d = (r, c)) :
    Calls Try.prog 24 #[v, u] w fun e w' => ∃ v', e = .returned (.tuple #[v', .bool c]) ∧ Fresh w.heap.size w'.heap.size w' [v'] r ∧ Below w.heap.size w w' :=
  (implPatchDo v t u d w hv hu).mono fun e w' h' => by rw [h] at h'; exact h'
theorem dist_small {a b : List ByteArray} (ha : textB a = true) (hb : textB b = true) {d : Int} (h : dist a b = d) : 0 ≤ d ∧ d ≤ 20 := by
  have h1 := text_len10 ha
  have h2 := text_len10 hb
  have h3 := lc_le a b
  unfold dist at h
  omega

set_option maxHeartbeats 4000000 in
set_option maxRecDepth 100000 in
theorem lawFnMergeDiff (v0 : Value) (bs : List UInt8) (w : World) (h0 : rd (fun b => b < w.heap.size) w [v0] bs) :
    Calls Try.prog 8 #[v0] w fun e w' => e = .returned (.bool true) ∧ Below w.heap.size w w' := by
  obtain ⟨a0, c0, rfl, hs0⟩ := rd_slice_elim h0
  have hle := hs0.le
  by_cases hbig : 1048576 < bs.length
  · go_enter Try.func8, Try.ntmps8
    go_wp2
    go_ret
    exact ⟨rfl, Below.refl _ _⟩
  · go_enter Try.func8, Try.ntmps8
    go_wp2_with fail
    refine (drawMergeText_any _ bs w h0 (by omega)).mono ?_
    rintro e w1 ⟨v, u, x, os, xs, ys, rfl, _, _, _, ho, hx, hy, HB⟩
    have ho := Rep.lt ho
    have hx := Rep.lt hx
    have hy := Rep.lt hy
    obtain ⟨r, hr⟩ : ∃ r, mText os xs ys = r := ⟨_, rfl⟩
    obtain ⟨r, c⟩ := r
    have HR := Lib.hid hr
    clear hr
    go_wp2_with fail
    refine (implMergeText_is _ _ _ os xs ys _ ho hx hy HR.out).mono ?_
    rintro e w2 ⟨p, rfl, hP, hb2⟩
    have ho := Rep.lt (Rep.keep ho hb2)
    have hx := Rep.lt (Rep.keep hx hb2)
    have hy := Rep.lt (Rep.keep hy hb2)
    have HB := HB.trans (hb2.mono HB.size)
    have hP := Rep.lt hP.rd
    go_wp2_with fail
    refine (specMergeText_is _ _ _ os xs ys _ ho hx hy HR.out).mono ?_
    rintro e w3 ⟨q, rfl, hQ, hb3⟩
    have ho := Rep.lt (Rep.keep ho hb3)
    have hx := Rep.lt (Rep.keep hx hb3)
    have hy := Rep.lt (Rep.keep hy hb3)
    have hP := Rep.lt (Rep.keep hP hb3)
    have HB := HB.trans (hb3.mono HB.size)
    have hQ := Rep.lt hQ.rd
    have hcc : (c != c) = false := by simp
    cases c with
    | false =>
      go_wp2_with fail
      refine (smTexts_b _ _ r r _ hP hQ (decide_eq_true rfl)).mono ?_
      rintro e w4 ⟨rfl, hb4⟩
      have ho := Rep.lt (Rep.keep ho hb4)
      have hx := Rep.lt (Rep.keep hx hb4)
      have hy := Rep.lt (Rep.keep hy hb4)
      have hP := Rep.lt (Rep.keep hP hb4)
      have hQ := Rep.lt (Rep.keep hQ hb4)
      have HB := HB.trans (hb4.mono HB.size)
      go_wp2_with fail
      refine (smTexts_b _ _ r r _ hP hQ (decide_eq_true rfl)).mono ?_
      rintro e w5 ⟨rfl, hb5⟩
      have ho := Rep.lt (Rep.keep ho hb5)
      have hx := Rep.lt (Rep.keep hx hb5)
      have hy := Rep.lt (Rep.keep hy hb5)
      have hP := Rep.lt (Rep.keep hP hb5)
      have hQ := Rep.lt (Rep.keep hQ hb5)
      have HB := HB.trans (hb5.mono HB.size)
      go_wp2
      go_ret
      exact ⟨rfl, HB⟩
    | true =>
      go_wp2_with fail
      refine (smTexts_b _ _ r r _ hP hQ (decide_eq_true rfl)).mono ?_
      rintro e w4 ⟨rfl, hb4⟩
      have ho := Rep.lt (Rep.keep ho hb4)
      have hx := Rep.lt (Rep.keep hx hb4)
      have hy := Rep.lt (Rep.keep hy hb4)
      have hP := Rep.lt (Rep.keep hP hb4)
      have hQ := Rep.lt (Rep.keep hQ hb4)
      have HB := HB.trans (hb4.mono HB.size)
      obtain ⟨k1, _, k3⟩ := mText_true HR.out
      obtain ⟨t1, t2, t3⟩ := three_iff.1 k1
      have T1 := Lib.hid t1
      have T2 := Lib.hid t2
      have T3 := Lib.hid t3
      have TR := Lib.hid k3
      have HD := Lib.hid (diff_do t1 t2)
      have HM := Lib.hid (merge_back t1 t2)
      have HL := Lib.hid (merge_less HR.out)
      clear k1 k3 t1 t2 t3
      go_wp2_with fail
      refine (implDiffOf_ok _ _ os xs _ ho hx T1.out T2.out).mono ?_
      rintro e w5 ⟨d, rfl, hD, hb5⟩
      have ho := Rep.lt (Rep.keep ho hb5)
      have hx := Rep.lt (Rep.keep hx hb5)
      have hy := Rep.lt (Rep.keep hy hb5)
      have hP := Rep.lt (Rep.keep hP hb5)
      have hQ := Rep.lt (Rep.keep hQ hb5)
      have HB := HB.trans (hb5.mono HB.size)
      have hD := Rep.lt hD.rd
      go_wp2_with fail
      refine (implPatchDo_is _ os _ _ _ ho hD HD.out).mono ?_
      rintro e w6 ⟨p2, rfl, hP2, hb6⟩
      have ho := Rep.lt (Rep.keep ho hb6)
      have hx := Rep.lt (Rep.keep hx hb6)
      have hy := Rep.lt (Rep.keep hy hb6)
      have hP := Rep.lt (Rep.keep hP hb6)
      have hQ := Rep.lt (Rep.keep hQ hb6)
      have hD := Rep.lt (Rep.keep hD hb6)
      have HB := HB.trans (hb6.mono HB.size)
      have hP2 := Rep.lt hP2.rd
      go_wp2_with fail
      refine (implMergeText_is _ _ _ os xs os _ ho hP2 ho HM.out).mono ?_
      rintro e w7 ⟨p3, rfl, hP3, hb7⟩
      have ho := Rep.lt (Rep.keep ho hb7)
      have hx := Rep.lt (Rep.keep hx hb7)
      have hy := Rep.lt (Rep.keep hy hb7)
      have hP := Rep.lt (Rep.keep hP hb7)
      have hQ := Rep.lt (Rep.keep hQ hb7)
      have hD := Rep.lt (Rep.keep hD hb7)
      have hP2 := Rep.lt (Rep.keep hP2 hb7)
      have HB := HB.trans (hb7.mono HB.size)
      have hP3 := Rep.lt hP3.rd
      obtain ⟨d1, hd1⟩ : ∃ d, dist os r = d := ⟨_, rfl⟩
      obtain ⟨d2, hd2⟩ : ∃ d, dist os xs = d := ⟨_, rfl⟩
      obtain ⟨d3, hd3⟩ : ∃ d, dist os ys = d := ⟨_, rfl⟩
      have hb1 := dist_small T1.out TR.out hd1
      have hb2 := dist_small T1.out T2.out hd2
      have hb3 := dist_small T1.out T3.out hd3
      have hle := HL.out
      rw [hd1, hd2, hd3] at hle
      have D1 := Lib.hid hd1
      have D2 := Lib.hid hd2
      have D3 := Lib.hid hd3
      clear hd1 hd2 hd3
      go_wp2_with fail
      refine (implDiffMany_ok _ _ os r _ ho hP T1.out TR.out D1.out).mono ?_
      rintro e w8 ⟨rfl, hb8⟩
      have ho := Rep.lt (Rep.keep ho hb8)
      have hx := Rep.lt (Rep.keep hx hb8)
      have hy := Rep.lt (Rep.keep hy hb8)
      have hP := Rep.lt (Rep.keep hP hb8)
      have hQ := Rep.lt (Rep.keep hQ hb8)
      have hD := Rep.lt (Rep.keep hD hb8)
      have hP2 := Rep.lt (Rep.keep hP2 hb8)
      have hP3 := Rep.lt (Rep.keep hP3 hb8)
      have HB := HB.trans (hb8.mono HB.size)
      go_wp2_with fail
      refine (smTexts_b _ _ xs xs _ hP3 hx (decide_eq_true rfl)).mono ?_
      rintro e w9 ⟨rfl, hb9⟩
      have ho := Rep.lt (Rep.keep ho hb9)
      have hx := Rep.lt (Rep.keep hx hb9)
      have hy := Rep.lt (Rep.keep hy hb9)
      have hP := Rep.lt (Rep.keep hP hb9)
      have hQ := Rep.lt (Rep.keep hQ hb9)
      have hD := Rep.lt (Rep.keep hD hb9)
      have hP2 := Rep.lt (Rep.keep hP2 hb9)
      have hP3 := Rep.lt (Rep.keep hP3 hb9)
      have HB := HB.trans (hb9.mono HB.size)
      go_wp2_with fail
      refine (implDiffMany_ok _ _ os xs _ ho hx T1.out T2.out D2.out).mono ?_
      rintro e w10 ⟨rfl, hb10⟩
      have ho := Rep.lt (Rep.keep ho hb10)
      have hx := Rep.lt (Rep.keep hx hb10)
      have hy := Rep.lt (Rep.keep hy hb10)
      have hP := Rep.lt (Rep.keep hP hb10)
      have hQ := Rep.lt (Rep.keep hQ hb10)
      have hD := Rep.lt (Rep.keep hD hb10)
      have hP2 := Rep.lt (Rep.keep hP2 hb10)
      have hP3 := Rep.lt (Rep.keep hP3 hb10)
      have HB := HB.trans (hb10.mono HB.size)
      go_wp2_with fail
      refine (implDiffMany_ok _ _ os ys _ ho hy T1.out T3.out D3.out).mono ?_
      rintro e w11 ⟨rfl, hb11⟩
      have ho := Rep.lt (Rep.keep ho hb11)
      have hx := Rep.lt (Rep.keep hx hb11)
      have hy := Rep.lt (Rep.keep hy hb11)
      have hP := Rep.lt (Rep.keep hP hb11)
      have hQ := Rep.lt (Rep.keep hQ hb11)
      have hD := Rep.lt (Rep.keep hD hb11)
      have hP2 := Rep.lt (Rep.keep hP2 hb11)
      have hP3 := Rep.lt (Rep.keep hP3 hb11)
      have HB := HB.trans (hb11.mono HB.size)
      go_wp2
      go_ret
      exact ⟨rfl, HB⟩
end Go.Proofs.Ytlokkbllplhlbaa
