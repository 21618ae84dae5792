/-
  The walk of a law: FnTreeSet.
-/
import Derived.Test.YtfpneepnnoldeaaDoorDrawTS
import Derived.Test.YtfpneepnnoldeaaDoorWTreeG
import Derived.Test.YtfpneepnnoldeaaDoorWTSet
import Derived.Test.YtfpneepnnoldeaaDoorWSetS
import Derived.Test.YtfpneepnnoldeaaDoorVSM
set_option linter.unusedVariables false
namespace Go.Proofs.YtfpneepnnoldeaaDoor
open Go.RowKit Go.Vc
open Go.Vc.Rep (rd)
open Go.Vc.Own (own)

set_option maxHeartbeats 8000000 in
set_option maxRecDepth 100000 in
theorem lawFnTreeSet (v0 : Value) (bs : List UInt8) (v1 : Value) (cs : List UInt8) (w : World) (h0 : rd (fun b => b < w.heap.size) w [v0] bs) (h1 : rd (fun b => b < w.heap.size) w [v1] cs) (hM : ML w) :
    Calls Tryd.prog 6 #[v0, v1] w fun e w' => e = .returned (.bool true) ∧ Below w.heap.size w w' := by
  obtain ⟨a0, c0, rfl, hs0⟩ := rd_slice_elim h0
  obtain ⟨a1, c1, rfl, hs1⟩ := rd_slice_elim h1
  have hle := hs0.le
  have hle1 := hs1.le
  by_cases hbig : 1048576 < bs.length
  · go_enter Tryd.func6, Tryd.ntmps6
    go_wp2
    go_ret
    exact ⟨rfl, Below.refl _ _⟩
  by_cases hbig1 : 1048576 < cs.length
  · go_enter Tryd.func6, Tryd.ntmps6
    go_wp2
    go_ret
    exact ⟨rfl, Below.refl _ _⟩
  go_enter Tryd.func6, Tryd.ntmps6
  go_wp2_with fail
  refine (drawTreeSet_any _ bs w h0 (by omega)).mono ?_
  rintro e w00 ⟨v, t, s, u, tx, rfl, hSm, hz, htx9, ht, htx, HB0⟩
  have ht := Rep.lt ht
  have htx := Rep.lt htx
  obtain ⟨at_, ct, hut, hts⟩ := rd_slice_elim htx
  subst hut
  obtain ⟨w0, hw0⟩ : ∃ w0, w0 = w00.alloc (.cells #[.string s, .slice at_ tx.length ct] 45) := ⟨_, rfl⟩
  obtain ⟨hBb, hsb, hq⟩ := boxed (vs := [.string s, .slice at_ tx.length ct]) hw0
  have q0 := hq 0 _ rfl
  have q1 := hq 1 _ rfl
  have HB := HB0.trans (hBb.mono HB0.size)
  have ht := Rep.lt (Rep.keep ht hBb)
  have htx := Rep.lt (Rep.keep htx hBb)
  have h1 := Rep.lt (Rep.keep h1 HB)
  have hM := hM.keep HB
  have HW := Lib.hid hw0
  have hS := hSm.short
  have hz9 : s.size ≤ maxLen := by unfold maxLen; omega
  have hzS : ShortS s := short_of (by omega)
  have h9 := hSm.1
  obtain ⟨x, hx⟩ : ∃ x, treeSet t ⟨s, tx⟩ = x := ⟨_, rfl⟩
  obtain ⟨b, hb⟩ : ∃ b, setB t ⟨s, tx⟩ = b := ⟨_, rfl⟩
  have IT := fun (q : World) (v' v2 : Value) (hv : rd (fun b => b < q.heap.size) q [v'] t) (hM : ML q) (h2 : rd (fun b => b < q.heap.size) q [v2] tx) => implTreeSet v' t s v2 tx q hv hS hM hz9 hzS h2 (by omega)
  have ST := fun (q : World) (v' v2 : Value) (hv : rd (fun b => b < q.heap.size) q [v'] t) (h2 : rd (fun b => b < q.heap.size) q [v2] tx) => specTreeSet v' t s v2 tx q hv hz9 h2 (by omega)
  rw [hx, hb] at IT ST
  have HX := Lib.hid hx
  have HBB := Lib.hid hb
  clear h0 hs0 hs1 hle hbig hSm hts hw0 hsb hq HB0 hx hb hBb
  go_wp2_with fail
  rw [← HW.out]
  clear HW
  refine (IT _ _ _ ht hM htx).mono ?_
  rintro e w1 ⟨p, rfl, hP, hb1⟩
  have ht := Rep.lt (Rep.keep ht hb1)
  have htx := Rep.lt (Rep.keep htx hb1)
  have h1 := Rep.lt (Rep.keep h1 hb1)
  have hM := ML.keep hM hb1
  have HB := HB.trans (hb1.mono HB.size)
  have q0 := keepc q0 hb1
  have q1 := keepc q1 hb1
  have hP := Rep.lt hP.rd
  obtain ⟨hPA, hPC, hPV, _⟩ := rd_slice_elim hP
  subst hPV
  go_wp2_with fail
  refine (ST _ _ _ ht htx).mono ?_
  rintro e w2 ⟨q, rfl, hQ, hb2⟩
  have ht := Rep.lt (Rep.keep ht hb2)
  have htx := Rep.lt (Rep.keep htx hb2)
  have h1 := Rep.lt (Rep.keep h1 hb2)
  have hM := ML.keep hM hb2
  have HB := HB.trans (hb2.mono HB.size)
  have q0 := keepc q0 hb2
  have q1 := keepc q1 hb2
  have hP := Rep.lt (Rep.keep hP hb2)
  have hQ := Rep.lt hQ
  obtain ⟨hQA, hQC, hQV, _⟩ := rd_slice_elim hQ
  subst hQV
  have hbb : (b != b) = false := by simp
  have hbe : (b == b) = true := by simp
  go_wp2_with fail
  refine (smTree_is _ _ x x _ hP hQ (decide_eq_true rfl)).mono ?_
  rintro e w3 ⟨rfl, hb3⟩
  have ht := Rep.lt (Rep.keep ht hb3)
  have htx := Rep.lt (Rep.keep htx hb3)
  have h1 := Rep.lt (Rep.keep h1 hb3)
  have hM := ML.keep hM hb3
  have HB := HB.trans (hb3.mono HB.size)
  have q0 := keepc q0 hb3
  have q1 := keepc q1 hb3
  have hP := Rep.lt (Rep.keep hP hb3)
  have hQ := Rep.lt (Rep.keep hQ hb3)
  cases hT : treeB t with
  | false =>
    go_wp2_with fail
    refine (treeOk_is _ t _ ht hS hM hT).mono ?_
    rintro e w4 ⟨rfl, hb4⟩
    have ht := Rep.lt (Rep.keep ht hb4)
    have htx := Rep.lt (Rep.keep htx hb4)
    have h1 := Rep.lt (Rep.keep h1 hb4)
    have hM := ML.keep hM hb4
    have HB := HB.trans (hb4.mono HB.size)
    have q0 := keepc q0 hb4
    have q1 := keepc q1 hb4
    have hP := Rep.lt (Rep.keep hP hb4)
    have hQ := Rep.lt (Rep.keep hQ hb4)
    go_wp2_with fail
    refine (specTreeOk_is _ t _ ht hT).mono ?_
    rintro e w5 ⟨rfl, hb5⟩
    have ht := Rep.lt (Rep.keep ht hb5)
    have htx := Rep.lt (Rep.keep htx hb5)
    have h1 := Rep.lt (Rep.keep h1 hb5)
    have hM := ML.keep hM hb5
    have HB := HB.trans (hb5.mono HB.size)
    have q0 := keepc q0 hb5
    have q1 := keepc q1 hb5
    have hP := Rep.lt (Rep.keep hP hb5)
    have hQ := Rep.lt (Rep.keep hQ hb5)
    go_wp2_with fail
    refine (treeOk_is _ t _ ht hS hM hT).mono ?_
    rintro e w6 ⟨rfl, hb6⟩
    have ht := Rep.lt (Rep.keep ht hb6)
    have htx := Rep.lt (Rep.keep htx hb6)
    have h1 := Rep.lt (Rep.keep h1 hb6)
    have hM := ML.keep hM hb6
    have HB := HB.trans (hb6.mono HB.size)
    have q0 := keepc q0 hb6
    have q1 := keepc q1 hb6
    have hP := Rep.lt (Rep.keep hP hb6)
    have hQ := Rep.lt (Rep.keep hQ hb6)
    go_wp2_with fail
    refine (smTree_is _ _ x x _ hP hQ (decide_eq_true rfl)).mono ?_
    rintro e w7 ⟨rfl, hb7⟩
    have ht := Rep.lt (Rep.keep ht hb7)
    have htx := Rep.lt (Rep.keep htx hb7)
    have h1 := Rep.lt (Rep.keep h1 hb7)
    have hM := ML.keep hM hb7
    have HB := HB.trans (hb7.mono HB.size)
    have q0 := keepc q0 hb7
    have q1 := keepc q1 hb7
    have hP := Rep.lt (Rep.keep hP hb7)
    have hQ := Rep.lt (Rep.keep hQ hb7)
    go_wp2_with fail
    refine (treeOk_is _ t _ ht hS hM hT).mono ?_
    rintro e w8 ⟨rfl, hb8⟩
    have ht := Rep.lt (Rep.keep ht hb8)
    have htx := Rep.lt (Rep.keep htx hb8)
    have h1 := Rep.lt (Rep.keep h1 hb8)
    have hM := ML.keep hM hb8
    have HB := HB.trans (hb8.mono HB.size)
    have q0 := keepc q0 hb8
    have q1 := keepc q1 hb8
    have hP := Rep.lt (Rep.keep hP hb8)
    have hQ := Rep.lt (Rep.keep hQ hb8)
    go_wp2_with fail
    refine (specTreeOk_is _ t _ ht hT).mono ?_
    rintro e w9 ⟨rfl, hb9⟩
    have ht := Rep.lt (Rep.keep ht hb9)
    have htx := Rep.lt (Rep.keep htx hb9)
    have h1 := Rep.lt (Rep.keep h1 hb9)
    have hM := ML.keep hM hb9
    have HB := HB.trans (hb9.mono HB.size)
    have q0 := keepc q0 hb9
    have q1 := keepc q1 hb9
    have hP := Rep.lt (Rep.keep hP hb9)
    have hQ := Rep.lt (Rep.keep hQ hb9)
    go_wp2
    go_ret
    exact ⟨rfl, HB⟩
  | true =>
    go_wp2_with fail
    refine (treeOk_is _ t _ ht hS hM hT).mono ?_
    rintro e w10 ⟨rfl, hb10⟩
    have ht := Rep.lt (Rep.keep ht hb10)
    have htx := Rep.lt (Rep.keep htx hb10)
    have h1 := Rep.lt (Rep.keep h1 hb10)
    have hM := ML.keep hM hb10
    have HB := HB.trans (hb10.mono HB.size)
    have q0 := keepc q0 hb10
    have q1 := keepc q1 hb10
    have hP := Rep.lt (Rep.keep hP hb10)
    have hQ := Rep.lt (Rep.keep hQ hb10)
    go_wp2_with fail
    refine (specTreeOk_is _ t _ ht hT).mono ?_
    rintro e w11 ⟨rfl, hb11⟩
    have ht := Rep.lt (Rep.keep ht hb11)
    have htx := Rep.lt (Rep.keep htx hb11)
    have h1 := Rep.lt (Rep.keep h1 hb11)
    have hM := ML.keep hM hb11
    have HB := HB.trans (hb11.mono HB.size)
    have q0 := keepc q0 hb11
    have q1 := keepc q1 hb11
    have hP := Rep.lt (Rep.keep hP hb11)
    have hQ := Rep.lt (Rep.keep hQ hb11)
    go_wp2_with fail
    refine (treeOk_is _ t _ ht hS hM hT).mono ?_
    rintro e w12 ⟨rfl, hb12⟩
    have ht := Rep.lt (Rep.keep ht hb12)
    have htx := Rep.lt (Rep.keep htx hb12)
    have h1 := Rep.lt (Rep.keep h1 hb12)
    have hM := ML.keep hM hb12
    have HB := HB.trans (hb12.mono HB.size)
    have q0 := keepc q0 hb12
    have q1 := keepc q1 hb12
    have hP := Rep.lt (Rep.keep hP hb12)
    have hQ := Rep.lt (Rep.keep hQ hb12)
    cases b with
    | false =>
      have hxt : decide (x = t) = true := decide_eq_true (by rw [← HX.out]; exact treeSet_no hT HBB.out)
      go_wp2_with fail
      refine (smTree_is _ _ x t _ hP ht hxt).mono ?_
      rintro e w13 ⟨rfl, hb13⟩
      have ht := Rep.lt (Rep.keep ht hb13)
      have htx := Rep.lt (Rep.keep htx hb13)
      have h1 := Rep.lt (Rep.keep h1 hb13)
      have hM := ML.keep hM hb13
      have HB := HB.trans (hb13.mono HB.size)
      have q0 := keepc q0 hb13
      have q1 := keepc q1 hb13
      have hP := Rep.lt (Rep.keep hP hb13)
      go_wp2
      go_ret
      exact ⟨rfl, HB⟩
    | true =>
      obtain ⟨hTx, hgx, hgo, hxx, hbx, hmx⟩ := treeSet_yes hT HBB.out HX.out
      have hSx : ∀ f, f ∈ x → ShortS f.path := fun f hf => by
        rcases hmx f hf with rfl | hf
        · exact hzS
        · exact hS f hf
      have IX := fun (q : World) (v' v2 : Value) (hv : rd (fun b => b < q.heap.size) q [v'] x) (hM : ML q) (h2 : rd (fun b => b < q.heap.size) q [v2] tx) => implTreeSet v' x s v2 tx q hv hSx hM hz9 hzS h2 (by omega)
      rw [hxx, hbx] at IX
      clear hxx hbx hmx hbb hbe IT ST
      go_wp2_with fail
      refine (implTreeGet _ x s _ hP hSx hM hgx).mono ?_
      rintro e w14 ⟨g1, rfl, hG1, hb14⟩
      have ht := Rep.lt (Rep.keep ht hb14)
      have htx := Rep.lt (Rep.keep htx hb14)
      have h1 := Rep.lt (Rep.keep h1 hb14)
      have hM := ML.keep hM hb14
      have HB := HB.trans (hb14.mono HB.size)
      have q0 := keepc q0 hb14
      have q1 := keepc q1 hb14
      have hP := Rep.lt (Rep.keep hP hb14)
      have hG1 := Rep.lt hG1.rd
      obtain ⟨hG1A, hG1C, hG1V, _⟩ := rd_slice_elim hG1
      subst hG1V
      go_wp2_with fail
      refine (drawTreeGet_any _ cs _ h1 (by omega)).mono ?_
      rintro e w15 ⟨v2, t2, path, rfl, hSm2, hz2, ht2, hb15⟩
      have ht := Rep.lt (Rep.keep ht hb15)
      have htx := Rep.lt (Rep.keep htx hb15)
      have h1 := Rep.lt (Rep.keep h1 hb15)
      have hM := ML.keep hM hb15
      have HB := HB.trans (hb15.mono HB.size)
      have q0 := keepc q0 hb15
      have q1 := keepc q1 hb15
      have hP := Rep.lt (Rep.keep hP hb15)
      have hG1 := Rep.lt (Rep.keep hG1 hb15)
      clear ht2 hSm2
      obtain ⟨M, hM1⟩ : ∃ M, treeGet t path = M := ⟨_, rfl⟩
      obtain ⟨N, hM2⟩ : ∃ N, treeGet x path = N := ⟨_, rfl⟩
      have HMN : Hid (¬ path = s → M = N) := fun h => by rw [← hM1, ← hM2]; exact (hgo path h).symm
      clear hgo
      go_wp2_with fail
      refine (implTreeGet _ t path _ ht hS hM hM1).mono ?_
      rintro e w16 ⟨g2, rfl, hG2, hb16⟩
      have ht := Rep.lt (Rep.keep ht hb16)
      have htx := Rep.lt (Rep.keep htx hb16)
      have h1 := Rep.lt (Rep.keep h1 hb16)
      have hM := ML.keep hM hb16
      have HB := HB.trans (hb16.mono HB.size)
      have q0 := keepc q0 hb16
      have q1 := keepc q1 hb16
      have hP := Rep.lt (Rep.keep hP hb16)
      have hG1 := Rep.lt (Rep.keep hG1 hb16)
      have hG2 := Rep.lt hG2.rd
      obtain ⟨hG2A, hG2C, hG2V, _⟩ := rd_slice_elim hG2
      subst hG2V
      go_wp2_with fail
      refine (implTreeGet _ x path _ hP hSx hM hM2).mono ?_
      rintro e w17 ⟨g3, rfl, hG3, hb17⟩
      have ht := Rep.lt (Rep.keep ht hb17)
      have htx := Rep.lt (Rep.keep htx hb17)
      have h1 := Rep.lt (Rep.keep h1 hb17)
      have hM := ML.keep hM hb17
      have HB := HB.trans (hb17.mono HB.size)
      have q0 := keepc q0 hb17
      have q1 := keepc q1 hb17
      have hP := Rep.lt (Rep.keep hP hb17)
      have hG1 := Rep.lt (Rep.keep hG1 hb17)
      have hG2 := Rep.lt (Rep.keep hG2 hb17)
      have hG3 := Rep.lt hG3.rd
      obtain ⟨hG3A, hG3C, hG3V, _⟩ := rd_slice_elim hG3
      subst hG3V
      clear hM1 hM2 hgx
      go_wp2_with fail
      refine (IX _ _ _ hP hM htx).mono ?_
      rintro e w18 ⟨y, rfl, hY, hb18⟩
      have ht := Rep.lt (Rep.keep ht hb18)
      have htx := Rep.lt (Rep.keep htx hb18)
      have h1 := Rep.lt (Rep.keep h1 hb18)
      have hM := ML.keep hM hb18
      have HB := HB.trans (hb18.mono HB.size)
      have q0 := keepc q0 hb18
      have q1 := keepc q1 hb18
      have hP := Rep.lt (Rep.keep hP hb18)
      have hG1 := Rep.lt (Rep.keep hG1 hb18)
      have hG2 := Rep.lt (Rep.keep hG2 hb18)
      have hG3 := Rep.lt (Rep.keep hG3 hb18)
      have hY := Rep.lt hY.rd
      obtain ⟨hYA, hYC, hYV, _⟩ := rd_slice_elim hY
      subst hYV
      go_wp2_with fail
      refine (treeOk_is _ x _ hP hSx hM hTx).mono ?_
      rintro e w19 ⟨rfl, hb19⟩
      have ht := Rep.lt (Rep.keep ht hb19)
      have htx := Rep.lt (Rep.keep htx hb19)
      have h1 := Rep.lt (Rep.keep h1 hb19)
      have hM := ML.keep hM hb19
      have HB := HB.trans (hb19.mono HB.size)
      have q0 := keepc q0 hb19
      have q1 := keepc q1 hb19
      have hP := Rep.lt (Rep.keep hP hb19)
      have hG1 := Rep.lt (Rep.keep hG1 hb19)
      have hG2 := Rep.lt (Rep.keep hG2 hb19)
      have hG3 := Rep.lt (Rep.keep hG3 hb19)
      have hY := Rep.lt (Rep.keep hY hb19)
      go_wp2_with fail
      refine (smTexts_c _ _ tx tx _ hG1 htx (decide_eq_true rfl)).mono ?_
      rintro e w20 ⟨rfl, hb20⟩
      have ht := Rep.lt (Rep.keep ht hb20)
      have htx := Rep.lt (Rep.keep htx hb20)
      have h1 := Rep.lt (Rep.keep h1 hb20)
      have hM := ML.keep hM hb20
      have HB := HB.trans (hb20.mono HB.size)
      have q0 := keepc q0 hb20
      have q1 := keepc q1 hb20
      have hP := Rep.lt (Rep.keep hP hb20)
      have hG1 := Rep.lt (Rep.keep hG1 hb20)
      have hG2 := Rep.lt (Rep.keep hG2 hb20)
      have hG3 := Rep.lt (Rep.keep hG3 hb20)
      have hY := Rep.lt (Rep.keep hY hb20)
      by_cases hps : path = s
      · have hd : decide (path = s) = true := decide_eq_true hps
        clear hps
        go_wp2_with fail
        refine (smTree_is _ _ x x _ hY hP (decide_eq_true rfl)).mono ?_
        rintro e w21 ⟨rfl, hb21⟩
        have ht := Rep.lt (Rep.keep ht hb21)
        have htx := Rep.lt (Rep.keep htx hb21)
        have h1 := Rep.lt (Rep.keep h1 hb21)
        have hM := ML.keep hM hb21
        have HB := HB.trans (hb21.mono HB.size)
        have q0 := keepc q0 hb21
        have q1 := keepc q1 hb21
        have hP := Rep.lt (Rep.keep hP hb21)
        have hG1 := Rep.lt (Rep.keep hG1 hb21)
        have hG2 := Rep.lt (Rep.keep hG2 hb21)
        have hG3 := Rep.lt (Rep.keep hG3 hb21)
        have hY := Rep.lt (Rep.keep hY hb21)
        go_wp2
        go_ret
        exact ⟨rfl, HB⟩
      · have hd : decide (path = s) = false := decide_eq_false hps
        have hMN := HMN.out hps
        have hmm : (M.isSome == N.isSome) = true := by rw [hMN]; simp
        have hmd : decide (M.getD [] = N.getD []) = true := by rw [hMN]; simp
        clear hps hMN
        go_wp2_with fail
        refine (smTexts_c _ _ _ _ _ hG2 hG3 hmd).mono ?_
        rintro e w22 ⟨rfl, hb22⟩
        have ht := Rep.lt (Rep.keep ht hb22)
        have htx := Rep.lt (Rep.keep htx hb22)
        have h1 := Rep.lt (Rep.keep h1 hb22)
        have hM := ML.keep hM hb22
        have HB := HB.trans (hb22.mono HB.size)
        have q0 := keepc q0 hb22
        have q1 := keepc q1 hb22
        have hP := Rep.lt (Rep.keep hP hb22)
        have hG1 := Rep.lt (Rep.keep hG1 hb22)
        have hG2 := Rep.lt (Rep.keep hG2 hb22)
        have hG3 := Rep.lt (Rep.keep hG3 hb22)
        have hY := Rep.lt (Rep.keep hY hb22)
        go_wp2_with fail
        refine (smTree_is _ _ x x _ hY hP (decide_eq_true rfl)).mono ?_
        rintro e w23 ⟨rfl, hb23⟩
        have ht := Rep.lt (Rep.keep ht hb23)
        have htx := Rep.lt (Rep.keep htx hb23)
        have h1 := Rep.lt (Rep.keep h1 hb23)
        have hM := ML.keep hM hb23
        have HB := HB.trans (hb23.mono HB.size)
        have q0 := keepc q0 hb23
        have q1 := keepc q1 hb23
        have hP := Rep.lt (Rep.keep hP hb23)
        have hG1 := Rep.lt (Rep.keep hG1 hb23)
        have hG2 := Rep.lt (Rep.keep hG2 hb23)
        have hG3 := Rep.lt (Rep.keep hG3 hb23)
        have hY := Rep.lt (Rep.keep hY hb23)
        go_wp2
        go_ret
        exact ⟨rfl, HB⟩
end Go.Proofs.YtfpneepnnoldeaaDoor
