/-
  The walk of a law: FnJoinSwap.
-/
import Derived.Test.YtegknjcifmenpaaGreatDoorVDJ
import Derived.Test.YtegknjcifmenpaaGreatDoorVJI
import Derived.Test.YtegknjcifmenpaaGreatDoorVJS
import Derived.Test.YtegknjcifmenpaaGreatDoorVSM
set_option linter.unusedVariables false
namespace Go.Proofs.YtegknjcifmenpaaGreatDoor
open Go.RowKit Go.Vc
open Go.Vc.Rep (rd)
open Go.Vc.Own (own)

set_option maxHeartbeats 8000000 in
set_option maxRecDepth 100000 in
theorem lawFnJoinSwap (v0 : Value) (bs : List UInt8) (w : World) (h0 : rd (fun b => b < w.heap.size) w [v0] bs) (hM : ML w) :
    Calls Tryz.prog 7 #[v0] w fun e w' => e = .returned (.bool true) ∧ Below w.heap.size w w' := by
  obtain ⟨a0, c0, rfl, hs0⟩ := rd_slice_elim h0
  have hle := hs0.le
  by_cases hbig : 1048576 < bs.length
  · go_enter Tryz.func7, Tryz.ntmps7
    go_wp2
    go_ret
    exact ⟨rfl, Below.refl _ _⟩
  go_enter Tryz.func7, Tryz.ntmps7
  go_wp2_with fail
  refine (drawJoinOf_any _ bs w h0 (by omega)).mono ?_
  rintro e w0 ⟨v, u, x, o, a, b, rfl, hSo9, hSa9, hSb9, ho, ha, hb, HB⟩
  have ho := Rep.lt ho
  have ha := Rep.lt ha
  have hb := Rep.lt hb
  obtain ⟨ao, co, hvo, _⟩ := rd_slice_elim ho
  subst hvo
  obtain ⟨aa, ca, hva, _⟩ := rd_slice_elim ha
  subst hva
  obtain ⟨ab, cb, hvb, _⟩ := rd_slice_elim hb
  subst hvb
  have hM := hM.keep HB
  have hSo : ∀ f, f ∈ o → ShortS f.path := fun f hf => short_of (by have := (hSo9.2 f hf).1; omega)
  have hSa : ∀ f, f ∈ a → ShortS f.path := fun f hf => short_of (by have := (hSa9.2 f hf).1; omega)
  have hSb : ∀ f, f ∈ b → ShortS f.path := fun f hf => short_of (by have := (hSb9.2 f hf).1; omega)
  clear h0 hs0 hle hbig hSo9 hSa9 hSb9
  obtain ⟨J, hJ⟩ : ∃ J, joinOf o a b = J := ⟨_, rfl⟩
  have hJ2 : joinOf o b a = J := by rw [joinOf_swap]; exact hJ
  have IT := fun (q : World) (v1 v2 v3 : Value) (h1 : rd (fun b => b < q.heap.size) q [v1] o) (h2 : rd (fun b => b < q.heap.size) q [v2] a) (h3 : rd (fun b => b < q.heap.size) q [v3] b) (hM : ML q) => implJoinOf v1 v2 v3 o a b q h1 h2 h3 hSo hSa hSb hM
  have IT2 := fun (q : World) (v1 v2 v3 : Value) (h1 : rd (fun b => b < q.heap.size) q [v1] o) (h2 : rd (fun b => b < q.heap.size) q [v2] b) (h3 : rd (fun b => b < q.heap.size) q [v3] a) (hM : ML q) => implJoinOf v1 v2 v3 o b a q h1 h2 h3 hSo hSb hSa hM
  have ST := fun (q : World) (v1 v2 v3 : Value) (h1 : rd (fun b => b < q.heap.size) q [v1] o) (h2 : rd (fun b => b < q.heap.size) q [v2] a) (h3 : rd (fun b => b < q.heap.size) q [v3] b) => specJoinOf v1 v2 v3 o a b q h1 h2 h3
  rw [hJ] at IT ST
  rw [hJ2] at IT2
  obtain ⟨t, cs⟩ := J
  simp only at IT IT2 ST
  clear hJ hJ2
  go_wp2_with fail
  refine (IT _ _ _ _ ho ha hb hM).mono ?_
  rintro e w1 ⟨p, q, rfl, hP, hPc, hb1⟩
  have ho := Rep.lt (Rep.keep ho hb1)
  have ha := Rep.lt (Rep.keep ha hb1)
  have hb := Rep.lt (Rep.keep hb hb1)
  have hM := ML.keep hM hb1
  have HB := HB.trans (hb1.mono HB.size)
  have hP := Rep.lt hP.rd
  have hPc := Rep.lt hPc
  obtain ⟨hPA, hPC, hPV, _⟩ := rd_slice_elim hP
  subst hPV
  obtain ⟨hPcA, hPcC, hPcV, _⟩ := rd_slice_elim hPc
  subst hPcV
  go_wp2_with fail
  refine (ST _ _ _ _ ho ha hb).mono ?_
  rintro e w2 ⟨p2, q2, rfl, hQ, hQc, hb2⟩
  have ho := Rep.lt (Rep.keep ho hb2)
  have ha := Rep.lt (Rep.keep ha hb2)
  have hb := Rep.lt (Rep.keep hb hb2)
  have hM := ML.keep hM hb2
  have HB := HB.trans (hb2.mono HB.size)
  have hP := Rep.lt (Rep.keep hP hb2)
  have hPc := Rep.lt (Rep.keep hPc hb2)
  have hQ := Rep.lt hQ.rd
  have hQc := Rep.lt hQc
  obtain ⟨hQA, hQC, hQV, _⟩ := rd_slice_elim hQ
  subst hQV
  obtain ⟨hQcA, hQcC, hQcV, _⟩ := rd_slice_elim hQc
  subst hQcV
  clear IT ST
  go_wp2_with fail
  refine (smTree_is _ _ t t _ hP hQ (decide_eq_true rfl)).mono ?_
  rintro e w3 ⟨rfl, hb3⟩
  have ho := Rep.lt (Rep.keep ho hb3)
  have ha := Rep.lt (Rep.keep ha hb3)
  have hb := Rep.lt (Rep.keep hb hb3)
  have hM := ML.keep hM hb3
  have HB := HB.trans (hb3.mono HB.size)
  have hP := Rep.lt (Rep.keep hP hb3)
  have hPc := Rep.lt (Rep.keep hPc hb3)
  have hQ := Rep.lt (Rep.keep hQ hb3)
  have hQc := Rep.lt (Rep.keep hQc hb3)
  go_wp2_with fail
  refine (smClash_same _ _ cs _ hPc hQc).mono ?_
  rintro e w4 ⟨rfl, hb4⟩
  have ho := Rep.lt (Rep.keep ho hb4)
  have ha := Rep.lt (Rep.keep ha hb4)
  have hb := Rep.lt (Rep.keep hb hb4)
  have hM := ML.keep hM hb4
  have HB := HB.trans (hb4.mono HB.size)
  have hP := Rep.lt (Rep.keep hP hb4)
  have hPc := Rep.lt (Rep.keep hPc hb4)
  have hQ := Rep.lt (Rep.keep hQ hb4)
  have hQc := Rep.lt (Rep.keep hQc hb4)
  cases hTo : treeB o with
  | false =>
    go_wp2_with fail
    refine (treeOk_is _ o _ ho hSo hM hTo).mono ?_
    rintro e w5 ⟨rfl, hb5⟩
    have ho := Rep.lt (Rep.keep ho hb5)
    have ha := Rep.lt (Rep.keep ha hb5)
    have hb := Rep.lt (Rep.keep hb hb5)
    have hM := ML.keep hM hb5
    have HB := HB.trans (hb5.mono HB.size)
    have hP := Rep.lt (Rep.keep hP hb5)
    have hPc := Rep.lt (Rep.keep hPc hb5)
    have hQ := Rep.lt (Rep.keep hQ hb5)
    have hQc := Rep.lt (Rep.keep hQc hb5)
    go_wp2_with fail
    refine (smTree_is _ _ t t _ hP hQ (decide_eq_true rfl)).mono ?_
    rintro e w6 ⟨rfl, hb6⟩
    have ho := Rep.lt (Rep.keep ho hb6)
    have ha := Rep.lt (Rep.keep ha hb6)
    have hb := Rep.lt (Rep.keep hb hb6)
    have hM := ML.keep hM hb6
    have HB := HB.trans (hb6.mono HB.size)
    have hP := Rep.lt (Rep.keep hP hb6)
    have hPc := Rep.lt (Rep.keep hPc hb6)
    have hQ := Rep.lt (Rep.keep hQ hb6)
    have hQc := Rep.lt (Rep.keep hQc hb6)
    go_wp2_with fail
    refine (smClash_same _ _ cs _ hPc hQc).mono ?_
    rintro e w7 ⟨rfl, hb7⟩
    have ho := Rep.lt (Rep.keep ho hb7)
    have ha := Rep.lt (Rep.keep ha hb7)
    have hb := Rep.lt (Rep.keep hb hb7)
    have hM := ML.keep hM hb7
    have HB := HB.trans (hb7.mono HB.size)
    have hP := Rep.lt (Rep.keep hP hb7)
    have hPc := Rep.lt (Rep.keep hPc hb7)
    have hQ := Rep.lt (Rep.keep hQ hb7)
    have hQc := Rep.lt (Rep.keep hQc hb7)
    go_wp2
    go_ret
    exact ⟨rfl, HB⟩
  | true =>
    go_wp2_with fail
    refine (treeOk_is _ o _ ho hSo hM hTo).mono ?_
    rintro e w8 ⟨rfl, hb8⟩
    have ho := Rep.lt (Rep.keep ho hb8)
    have ha := Rep.lt (Rep.keep ha hb8)
    have hb := Rep.lt (Rep.keep hb hb8)
    have hM := ML.keep hM hb8
    have HB := HB.trans (hb8.mono HB.size)
    have hP := Rep.lt (Rep.keep hP hb8)
    have hPc := Rep.lt (Rep.keep hPc hb8)
    have hQ := Rep.lt (Rep.keep hQ hb8)
    have hQc := Rep.lt (Rep.keep hQc hb8)
    cases hTa : treeB a with
    | false =>
      go_wp2_with fail
      refine (treeOk_is _ a _ ha hSa hM hTa).mono ?_
      rintro e w9 ⟨rfl, hb9⟩
      have ho := Rep.lt (Rep.keep ho hb9)
      have ha := Rep.lt (Rep.keep ha hb9)
      have hb := Rep.lt (Rep.keep hb hb9)
      have hM := ML.keep hM hb9
      have HB := HB.trans (hb9.mono HB.size)
      have hP := Rep.lt (Rep.keep hP hb9)
      have hPc := Rep.lt (Rep.keep hPc hb9)
      have hQ := Rep.lt (Rep.keep hQ hb9)
      have hQc := Rep.lt (Rep.keep hQc hb9)
      go_wp2_with fail
      refine (smTree_is _ _ t t _ hP hQ (decide_eq_true rfl)).mono ?_
      rintro e w10 ⟨rfl, hb10⟩
      have ho := Rep.lt (Rep.keep ho hb10)
      have ha := Rep.lt (Rep.keep ha hb10)
      have hb := Rep.lt (Rep.keep hb hb10)
      have hM := ML.keep hM hb10
      have HB := HB.trans (hb10.mono HB.size)
      have hP := Rep.lt (Rep.keep hP hb10)
      have hPc := Rep.lt (Rep.keep hPc hb10)
      have hQ := Rep.lt (Rep.keep hQ hb10)
      have hQc := Rep.lt (Rep.keep hQc hb10)
      go_wp2_with fail
      refine (smClash_same _ _ cs _ hPc hQc).mono ?_
      rintro e w11 ⟨rfl, hb11⟩
      have ho := Rep.lt (Rep.keep ho hb11)
      have ha := Rep.lt (Rep.keep ha hb11)
      have hb := Rep.lt (Rep.keep hb hb11)
      have hM := ML.keep hM hb11
      have HB := HB.trans (hb11.mono HB.size)
      have hP := Rep.lt (Rep.keep hP hb11)
      have hPc := Rep.lt (Rep.keep hPc hb11)
      have hQ := Rep.lt (Rep.keep hQ hb11)
      have hQc := Rep.lt (Rep.keep hQc hb11)
      go_wp2
      go_ret
      exact ⟨rfl, HB⟩
    | true =>
      go_wp2_with fail
      refine (treeOk_is _ a _ ha hSa hM hTa).mono ?_
      rintro e w12 ⟨rfl, hb12⟩
      have ho := Rep.lt (Rep.keep ho hb12)
      have ha := Rep.lt (Rep.keep ha hb12)
      have hb := Rep.lt (Rep.keep hb hb12)
      have hM := ML.keep hM hb12
      have HB := HB.trans (hb12.mono HB.size)
      have hP := Rep.lt (Rep.keep hP hb12)
      have hPc := Rep.lt (Rep.keep hPc hb12)
      have hQ := Rep.lt (Rep.keep hQ hb12)
      have hQc := Rep.lt (Rep.keep hQc hb12)
      cases hTb : treeB b with
      | false =>
        go_wp2_with fail
        refine (treeOk_is _ b _ hb hSb hM hTb).mono ?_
        rintro e w13 ⟨rfl, hb13⟩
        have ho := Rep.lt (Rep.keep ho hb13)
        have ha := Rep.lt (Rep.keep ha hb13)
        have hb := Rep.lt (Rep.keep hb hb13)
        have hM := ML.keep hM hb13
        have HB := HB.trans (hb13.mono HB.size)
        have hP := Rep.lt (Rep.keep hP hb13)
        have hPc := Rep.lt (Rep.keep hPc hb13)
        have hQ := Rep.lt (Rep.keep hQ hb13)
        have hQc := Rep.lt (Rep.keep hQc hb13)
        go_wp2_with fail
        refine (smTree_is _ _ t t _ hP hQ (decide_eq_true rfl)).mono ?_
        rintro e w14 ⟨rfl, hb14⟩
        have ho := Rep.lt (Rep.keep ho hb14)
        have ha := Rep.lt (Rep.keep ha hb14)
        have hb := Rep.lt (Rep.keep hb hb14)
        have hM := ML.keep hM hb14
        have HB := HB.trans (hb14.mono HB.size)
        have hP := Rep.lt (Rep.keep hP hb14)
        have hPc := Rep.lt (Rep.keep hPc hb14)
        have hQ := Rep.lt (Rep.keep hQ hb14)
        have hQc := Rep.lt (Rep.keep hQc hb14)
        go_wp2_with fail
        refine (smClash_same _ _ cs _ hPc hQc).mono ?_
        rintro e w15 ⟨rfl, hb15⟩
        have ho := Rep.lt (Rep.keep ho hb15)
        have ha := Rep.lt (Rep.keep ha hb15)
        have hb := Rep.lt (Rep.keep hb hb15)
        have hM := ML.keep hM hb15
        have HB := HB.trans (hb15.mono HB.size)
        have hP := Rep.lt (Rep.keep hP hb15)
        have hPc := Rep.lt (Rep.keep hPc hb15)
        have hQ := Rep.lt (Rep.keep hQ hb15)
        have hQc := Rep.lt (Rep.keep hQc hb15)
        go_wp2
        go_ret
        exact ⟨rfl, HB⟩
      | true =>
        go_wp2_with fail
        refine (treeOk_is _ b _ hb hSb hM hTb).mono ?_
        rintro e w16 ⟨rfl, hb16⟩
        have ho := Rep.lt (Rep.keep ho hb16)
        have ha := Rep.lt (Rep.keep ha hb16)
        have hb := Rep.lt (Rep.keep hb hb16)
        have hM := ML.keep hM hb16
        have HB := HB.trans (hb16.mono HB.size)
        have hP := Rep.lt (Rep.keep hP hb16)
        have hPc := Rep.lt (Rep.keep hPc hb16)
        have hQ := Rep.lt (Rep.keep hQ hb16)
        have hQc := Rep.lt (Rep.keep hQc hb16)
        go_wp2_with fail
        refine (IT2 _ _ _ _ ho hb ha hM).mono ?_
        rintro e w17 ⟨p3, q3, rfl, hR, hRc, hb17⟩
        have ho := Rep.lt (Rep.keep ho hb17)
        have ha := Rep.lt (Rep.keep ha hb17)
        have hb := Rep.lt (Rep.keep hb hb17)
        have hM := ML.keep hM hb17
        have HB := HB.trans (hb17.mono HB.size)
        have hP := Rep.lt (Rep.keep hP hb17)
        have hPc := Rep.lt (Rep.keep hPc hb17)
        have hR := Rep.lt hR.rd
        have hRc := Rep.lt hRc
        obtain ⟨hRA, hRC, hRV, _⟩ := rd_slice_elim hR
        subst hRV
        obtain ⟨hRcA, hRcC, hRcV, _⟩ := rd_slice_elim hRc
        subst hRcV
        go_wp2_with fail
        refine (smTree_is _ _ t t _ hR hP (decide_eq_true rfl)).mono ?_
        rintro e w18 ⟨rfl, hb18⟩
        have ho := Rep.lt (Rep.keep ho hb18)
        have ha := Rep.lt (Rep.keep ha hb18)
        have hb := Rep.lt (Rep.keep hb hb18)
        have hM := ML.keep hM hb18
        have HB := HB.trans (hb18.mono HB.size)
        have hP := Rep.lt (Rep.keep hP hb18)
        have hPc := Rep.lt (Rep.keep hPc hb18)
        have hR := Rep.lt (Rep.keep hR hb18)
        have hRc := Rep.lt (Rep.keep hRc hb18)
        go_wp2_with fail
        refine (smClash_same _ _ cs _ hRc hPc).mono ?_
        rintro e w19 ⟨rfl, hb19⟩
        have ho := Rep.lt (Rep.keep ho hb19)
        have ha := Rep.lt (Rep.keep ha hb19)
        have hb := Rep.lt (Rep.keep hb hb19)
        have hM := ML.keep hM hb19
        have HB := HB.trans (hb19.mono HB.size)
        have hP := Rep.lt (Rep.keep hP hb19)
        have hPc := Rep.lt (Rep.keep hPc hb19)
        have hR := Rep.lt (Rep.keep hR hb19)
        have hRc := Rep.lt (Rep.keep hRc hb19)
        go_wp2
        go_ret
        exact ⟨rfl, HB⟩
end Go.Proofs.YtegknjcifmenpaaGreatDoor
