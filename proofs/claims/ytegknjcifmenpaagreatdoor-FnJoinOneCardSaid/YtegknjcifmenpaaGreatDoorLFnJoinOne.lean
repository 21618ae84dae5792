/-
  The walk of a law: FnJoinOne.
-/
import Derived.Test.YtegknjcifmenpaaGreatDoorVDJ
import Derived.Test.YtegknjcifmenpaaGreatDoorWJoinT
import Derived.Test.YtegknjcifmenpaaGreatDoorVJS
import Derived.Test.YtegknjcifmenpaaGreatDoorVSM
set_option linter.unusedVariables false
namespace Go.Proofs.YtegknjcifmenpaaGreatDoor
open Go.RowKit Go.Vc
open Go.Vc.Rep (rd)
open Go.Vc.Own (own)

set_option maxHeartbeats 8000000 in
set_option maxRecDepth 100000 in
theorem lawFnJoinOne (v0 : Value) (bs : List UInt8) (w : World) (h0 : rd (fun b => b < w.heap.size) w [v0] bs) (hM : ML w) :
    Calls Tryz.prog 8 #[v0] w fun e w' => e = .returned (.bool true) ∧ Below w.heap.size w w' := by
  obtain ⟨a0, c0, rfl, hs0⟩ := rd_slice_elim h0
  have hle := hs0.le
  by_cases hbig : 1048576 < bs.length
  · go_enter Tryz.func8, Tryz.ntmps8
    go_wp2
    go_ret
    exact ⟨rfl, Below.refl _ _⟩
  go_enter Tryz.func8, Tryz.ntmps8
  go_wp2_with fail
  refine (drawJoinTree_any _ bs w h0 (by omega)).mono ?_
  rintro e w0 ⟨v, u, x, o, a, b, rfl, hSo9, hSa9, hSb9, ho, ha, hb, HB⟩
  have ho := Rep.lt ho
  have ha := Rep.lt ha
  have hb := Rep.lt hb
  obtain ⟨ao, co, hvo, _⟩ := rd_slice_elim ho
  subst hvo
  obtain ⟨aa, ca, hva, _⟩ := rd_slice_elim ha
  subst hva
  obtain ⟨ab, cb, hvb, _⟩ := rd_slice_elim hb
  subst hvb
  have hM := hM.keep HB
  have hSo : ∀ f, f ∈ o → ShortS f.path := fun f hf => short_of (by have := (hSo9.2 f hf).1; omega)
  have hSa : ∀ f, f ∈ a → ShortS f.path := fun f hf => short_of (by have := (hSa9.2 f hf).1; omega)
  have hSb : ∀ f, f ∈ b → ShortS f.path := fun f hf => short_of (by have := (hSb9.2 f hf).1; omega)
  clear h0 hs0 hle hbig hSo9 hSa9 hSb9
  obtain ⟨J, hJ⟩ : ∃ J, joinTree o a b = J := ⟨_, rfl⟩
  have IT := fun (q : World) (v1 v2 v3 : Value) (h1 : rd (fun b => b < q.heap.size) q [v1] o) (h2 : rd (fun b => b < q.heap.size) q [v2] a) (h3 : rd (fun b => b < q.heap.size) q [v3] b) (hM : ML q) => implJoinTree v1 v2 v3 o a b q h1 h2 h3 hSo hSa hSb hM
  have I1 := fun (q : World) (v1 v2 v3 : Value) (h1 : rd (fun b => b < q.heap.size) q [v1] o) (h2 : rd (fun b => b < q.heap.size) q [v2] o) (h3 : rd (fun b => b < q.heap.size) q [v3] b) (hM : ML q) => implJoinTree v1 v2 v3 o o b q h1 h2 h3 hSo hSo hSb hM
  have I2 := fun (q : World) (v1 v2 v3 : Value) (h1 : rd (fun b => b < q.heap.size) q [v1] o) (h2 : rd (fun b => b < q.heap.size) q [v2] a) (h3 : rd (fun b => b < q.heap.size) q [v3] o) (hM : ML q) => implJoinTree v1 v2 v3 o a o q h1 h2 h3 hSo hSa hSo hM
  have I3 := fun (q : World) (v1 v2 v3 : Value) (h1 : rd (fun b => b < q.heap.size) q [v1] o) (h2 : rd (fun b => b < q.heap.size) q [v2] a) (h3 : rd (fun b => b < q.heap.size) q [v3] a) (hM : ML q) => implJoinTree v1 v2 v3 o a a q h1 h2 h3 hSo hSa hSa hM
  have ST := fun (q : World) (v1 v2 v3 : Value) (h1 : rd (fun b => b < q.heap.size) q [v1] o) (h2 : rd (fun b => b < q.heap.size) q [v2] a) (h3 : rd (fun b => b < q.heap.size) q [v3] b) => specJoinTree v1 v2 v3 o a b q h1 h2 h3
  rw [hJ] at IT ST
  obtain ⟨t, c⟩ := J
  simp only at IT ST
  clear hJ
  go_wp2_with fail
  refine (IT _ _ _ _ ho ha hb hM).mono ?_
  rintro e w1 ⟨p, rfl, hP, hb1⟩
  have ho := Rep.lt (Rep.keep ho hb1)
  have ha := Rep.lt (Rep.keep ha hb1)
  have hb := Rep.lt (Rep.keep hb hb1)
  have hM := ML.keep hM hb1
  have HB := HB.trans (hb1.mono HB.size)
  have hP := Rep.lt hP.rd
  obtain ⟨hPA, hPC, hPV, _⟩ := rd_slice_elim hP
  subst hPV
  go_wp2_with fail
  refine (ST _ _ _ _ ho ha hb).mono ?_
  rintro e w2 ⟨p2, rfl, hQ, hb2⟩
  have ho := Rep.lt (Rep.keep ho hb2)
  have ha := Rep.lt (Rep.keep ha hb2)
  have hb := Rep.lt (Rep.keep hb hb2)
  have hM := ML.keep hM hb2
  have HB := HB.trans (hb2.mono HB.size)
  have hP := Rep.lt (Rep.keep hP hb2)
  have hQ := Rep.lt hQ.rd
  obtain ⟨hQA, hQC, hQV, _⟩ := rd_slice_elim hQ
  subst hQV
  clear IT ST
  have hcc : (c != c) = false := by simp
  have hce : (c == c) = true := by simp
  go_wp2_with fail
  refine (smTree_is _ _ t t _ hP hQ (decide_eq_true rfl)).mono ?_
  rintro e w3 ⟨rfl, hb3⟩
  have ho := Rep.lt (Rep.keep ho hb3)
  have ha := Rep.lt (Rep.keep ha hb3)
  have hb := Rep.lt (Rep.keep hb hb3)
  have hM := ML.keep hM hb3
  have HB := HB.trans (hb3.mono HB.size)
  have hP := Rep.lt (Rep.keep hP hb3)
  have hQ := Rep.lt (Rep.keep hQ hb3)
  cases hTo : treeB o with
  | false =>
    go_wp2_with fail
    refine (treeOk_is _ o _ ho hSo hM hTo).mono ?_
    rintro e w4 ⟨rfl, hb4⟩
    have ho := Rep.lt (Rep.keep ho hb4)
    have ha := Rep.lt (Rep.keep ha hb4)
    have hb := Rep.lt (Rep.keep hb hb4)
    have hM := ML.keep hM hb4
    have HB := HB.trans (hb4.mono HB.size)
    have hP := Rep.lt (Rep.keep hP hb4)
    have hQ := Rep.lt (Rep.keep hQ hb4)
    go_wp2_with fail
    refine (smTree_is _ _ t t _ hP hQ (decide_eq_true rfl)).mono ?_
    rintro e w5 ⟨rfl, hb5⟩
    have ho := Rep.lt (Rep.keep ho hb5)
    have ha := Rep.lt (Rep.keep ha hb5)
    have hb := Rep.lt (Rep.keep hb hb5)
    have hM := ML.keep hM hb5
    have HB := HB.trans (hb5.mono HB.size)
    have hP := Rep.lt (Rep.keep hP hb5)
    have hQ := Rep.lt (Rep.keep hQ hb5)
    go_wp2
    go_ret
    exact ⟨rfl, HB⟩
  | true =>
    go_wp2_with fail
    refine (treeOk_is _ o _ ho hSo hM hTo).mono ?_
    rintro e w6 ⟨rfl, hb6⟩
    have ho := Rep.lt (Rep.keep ho hb6)
    have ha := Rep.lt (Rep.keep ha hb6)
    have hb := Rep.lt (Rep.keep hb hb6)
    have hM := ML.keep hM hb6
    have HB := HB.trans (hb6.mono HB.size)
    have hP := Rep.lt (Rep.keep hP hb6)
    have hQ := Rep.lt (Rep.keep hQ hb6)
    cases hTa : treeB a with
    | false =>
      go_wp2_with fail
      refine (treeOk_is _ a _ ha hSa hM hTa).mono ?_
      rintro e w7 ⟨rfl, hb7⟩
      have ho := Rep.lt (Rep.keep ho hb7)
      have ha := Rep.lt (Rep.keep ha hb7)
      have hb := Rep.lt (Rep.keep hb hb7)
      have hM := ML.keep hM hb7
      have HB := HB.trans (hb7.mono HB.size)
      have hP := Rep.lt (Rep.keep hP hb7)
      have hQ := Rep.lt (Rep.keep hQ hb7)
      go_wp2_with fail
      refine (smTree_is _ _ t t _ hP hQ (decide_eq_true rfl)).mono ?_
      rintro e w8 ⟨rfl, hb8⟩
      have ho := Rep.lt (Rep.keep ho hb8)
      have ha := Rep.lt (Rep.keep ha hb8)
      have hb := Rep.lt (Rep.keep hb hb8)
      have hM := ML.keep hM hb8
      have HB := HB.trans (hb8.mono HB.size)
      have hP := Rep.lt (Rep.keep hP hb8)
      have hQ := Rep.lt (Rep.keep hQ hb8)
      go_wp2
      go_ret
      exact ⟨rfl, HB⟩
    | true =>
      go_wp2_with fail
      refine (treeOk_is _ a _ ha hSa hM hTa).mono ?_
      rintro e w9 ⟨rfl, hb9⟩
      have ho := Rep.lt (Rep.keep ho hb9)
      have ha := Rep.lt (Rep.keep ha hb9)
      have hb := Rep.lt (Rep.keep hb hb9)
      have hM := ML.keep hM hb9
      have HB := HB.trans (hb9.mono HB.size)
      have hP := Rep.lt (Rep.keep hP hb9)
      have hQ := Rep.lt (Rep.keep hQ hb9)
      cases hTb : treeB b with
      | false =>
        go_wp2_with fail
        refine (treeOk_is _ b _ hb hSb hM hTb).mono ?_
        rintro e w10 ⟨rfl, hb10⟩
        have ho := Rep.lt (Rep.keep ho hb10)
        have ha := Rep.lt (Rep.keep ha hb10)
        have hb := Rep.lt (Rep.keep hb hb10)
        have hM := ML.keep hM hb10
        have HB := HB.trans (hb10.mono HB.size)
        have hP := Rep.lt (Rep.keep hP hb10)
        have hQ := Rep.lt (Rep.keep hQ hb10)
        go_wp2_with fail
        refine (smTree_is _ _ t t _ hP hQ (decide_eq_true rfl)).mono ?_
        rintro e w11 ⟨rfl, hb11⟩
        have ho := Rep.lt (Rep.keep ho hb11)
        have ha := Rep.lt (Rep.keep ha hb11)
        have hb := Rep.lt (Rep.keep hb hb11)
        have hM := ML.keep hM hb11
        have HB := HB.trans (hb11.mono HB.size)
        have hP := Rep.lt (Rep.keep hP hb11)
        have hQ := Rep.lt (Rep.keep hQ hb11)
        go_wp2
        go_ret
        exact ⟨rfl, HB⟩
      | true =>
        go_wp2_with fail
        refine (treeOk_is _ b _ hb hSb hM hTb).mono ?_
        rintro e w12 ⟨rfl, hb12⟩
        have ho := Rep.lt (Rep.keep ho hb12)
        have ha := Rep.lt (Rep.keep ha hb12)
        have hb := Rep.lt (Rep.keep hb hb12)
        have hM := ML.keep hM hb12
        have HB := HB.trans (hb12.mono HB.size)
        have hP := Rep.lt (Rep.keep hP hb12)
        have hQ := Rep.lt (Rep.keep hQ hb12)
        rw [one_left hTo hTb] at I1
        rw [one_right hTo hTa] at I2
        rw [one_same hTo hTa] at I3
        simp only at I1 I2 I3
        clear hP hQ hTo hTa hTb hcc hce
        go_wp2_with fail
        refine (I1 _ _ _ _ ho ho hb hM).mono ?_
        rintro e w13 ⟨r1, rfl, hR1, hb13⟩
        have ho := Rep.lt (Rep.keep ho hb13)
        have ha := Rep.lt (Rep.keep ha hb13)
        have hb := Rep.lt (Rep.keep hb hb13)
        have hM := ML.keep hM hb13
        have HB := HB.trans (hb13.mono HB.size)
        have hR1 := Rep.lt hR1.rd
        obtain ⟨hR1A, hR1C, hR1V, _⟩ := rd_slice_elim hR1
        subst hR1V
        go_wp2_with fail
        refine (I2 _ _ _ _ ho ha ho hM).mono ?_
        rintro e w14 ⟨r2, rfl, hR2, hb14⟩
        have ho := Rep.lt (Rep.keep ho hb14)
        have ha := Rep.lt (Rep.keep ha hb14)
        have hb := Rep.lt (Rep.keep hb hb14)
        have hM := ML.keep hM hb14
        have HB := HB.trans (hb14.mono HB.size)
        have hR1 := Rep.lt (Rep.keep hR1 hb14)
        have hR2 := Rep.lt hR2.rd
        obtain ⟨hR2A, hR2C, hR2V, _⟩ := rd_slice_elim hR2
        subst hR2V
        go_wp2_with fail
        refine (I3 _ _ _ _ ho ha ha hM).mono ?_
        rintro e w15 ⟨r3, rfl, hR3, hb15⟩
        have ho := Rep.lt (Rep.keep ho hb15)
        have ha := Rep.lt (Rep.keep ha hb15)
        have hb := Rep.lt (Rep.keep hb hb15)
        have hM := ML.keep hM hb15
        have HB := HB.trans (hb15.mono HB.size)
        have hR1 := Rep.lt (Rep.keep hR1 hb15)
        have hR2 := Rep.lt (Rep.keep hR2 hb15)
        have hR3 := Rep.lt hR3.rd
        obtain ⟨hR3A, hR3C, hR3V, _⟩ := rd_slice_elim hR3
        subst hR3V
        clear I1 I2 I3
        go_wp2_with fail
        refine (smTree_is _ _ b b _ hR1 hb (decide_eq_true rfl)).mono ?_
        rintro e w16 ⟨rfl, hb16⟩
        have ho := Rep.lt (Rep.keep ho hb16)
        have ha := Rep.lt (Rep.keep ha hb16)
        have hb := Rep.lt (Rep.keep hb hb16)
        have hM := ML.keep hM hb16
        have HB := HB.trans (hb16.mono HB.size)
        have hR1 := Rep.lt (Rep.keep hR1 hb16)
        have hR2 := Rep.lt (Rep.keep hR2 hb16)
        have hR3 := Rep.lt (Rep.keep hR3 hb16)
        go_wp2_with fail
        refine (smTree_is _ _ a a _ hR2 ha (decide_eq_true rfl)).mono ?_
        rintro e w17 ⟨rfl, hb17⟩
        have ho := Rep.lt (Rep.keep ho hb17)
        have ha := Rep.lt (Rep.keep ha hb17)
        have hb := Rep.lt (Rep.keep hb hb17)
        have hM := ML.keep hM hb17
        have HB := HB.trans (hb17.mono HB.size)
        have hR1 := Rep.lt (Rep.keep hR1 hb17)
        have hR2 := Rep.lt (Rep.keep hR2 hb17)
        have hR3 := Rep.lt (Rep.keep hR3 hb17)
        go_wp2_with fail
        refine (smTree_is _ _ a a _ hR3 ha (decide_eq_true rfl)).mono ?_
        rintro e w18 ⟨rfl, hb18⟩
        have ho := Rep.lt (Rep.keep ho hb18)
        have ha := Rep.lt (Rep.keep ha hb18)
        have hb := Rep.lt (Rep.keep hb hb18)
        have hM := ML.keep hM hb18
        have HB := HB.trans (hb18.mono HB.size)
        have hR1 := Rep.lt (Rep.keep hR1 hb18)
        have hR2 := Rep.lt (Rep.keep hR2 hb18)
        have hR3 := Rep.lt (Rep.keep hR3 hb18)
        go_wp2
        go_ret
        exact ⟨rfl, HB⟩
end Go.Proofs.YtegknjcifmenpaaGreatDoor
