/-
  The walk of a law: FnChangesOver. / Closed facts of the row of the law 'FnChangesOver'.
-/
import Derived.Test.YtlpfoekbccbhlaaGreatDoorVDJ
import Derived.Test.YtlpfoekbccbhlaaGreatDoorWChO
import Derived.Test.YtlpfoekbccbhlaaGreatDoorVCS
import Derived.Test.YtlpfoekbccbhlaaGreatDoorWChD
import Derived.Test.YtlpfoekbccbhlaaGreatDoorVCH
import Derived.Test.YtlpfoekbccbhlaaGreatDoorVSM
import Derived.Test.YtlpfoekbccbhlaaGreatDoorVZ
set_option linter.unusedVariables false
namespace Go.Proofs.YtlpfoekbccbhlaaGreatDoor
open Go.RowKit Go.Vc
open Go.Vc.Rep (rd)
open Go.Vc.Own (own)
set_option maxHeartbeats 8000000 in
set_option maxRecDepth 100000 in
theorem lawFnChangesOver (v0 : Value) (bs : List UInt8) (v1 : Value) (cs : List UInt8) (w : World) (h0 : rd (fun b => b < w.heap.size) w [v0] bs) (h1 : rd (fun b => b < w.heap.size) w [v1] cs) (hM : ML w) :
    Calls Tryz.prog 4 #[v0, v1] w fun e w' => e = .returned (.bool true) ∧ Below w.heap.size w w' := by
  obtain ⟨a0, c0, rfl, hs0⟩ := rd_slice_elim h0
  have hle := hs0.le
  obtain ⟨a1, c1, rfl, hs1⟩ := rd_slice_elim h1
  have hle1 := hs1.le
  by_cases hbig : 1048576 < bs.length
  · go_enter Tryz.func4, Tryz.ntmps4
    go_wp2
    go_ret
    exact ⟨rfl, Below.refl _ _⟩
  by_cases hbig1 : 1048576 < cs.length
  · go_enter Tryz.func4, Tryz.ntmps4
    go_wp2
    go_ret
    exact ⟨rfl, Below.refl _ _⟩
  go_enter Tryz.func4, Tryz.ntmps4
  go_wp2_with fail
  refine (drawChangesOf_any _ bs w h0 (by omega)).mono ?_
  rintro e w0 ⟨v, u, a, b, rfl, hSa9, hSb9, ha, hb, HB⟩
  have ha := Rep.lt ha
  have hb := Rep.lt hb
  have hM := hM.keep HB
  have hSa : ∀ f, f ∈ a → ShortS f.path := fun f hf => short_of (by have := (hSa9.2 f hf).1; omega)
  have hSb : ∀ f, f ∈ b → ShortS f.path := fun f hf => short_of (by have := (hSb9.2 f hf).1; omega)
  have h1 := Rep.lt (Rep.keep h1 HB)
  clear h0 hs0 hle hbig hSa9 hSb9 hs1 hle1
  obtain ⟨haA, haC, haV, _⟩ := rd_slice_elim ha
  subst haV
  obtain ⟨hbA, hbC, hbV, _⟩ := rd_slice_elim hb
  subst hbV
  go_wp2_with fail
  refine (drawChangesOf_any _ cs _ h1 (by omega)).mono ?_
  rintro e w1 ⟨v2, u2, c9, c, rfl, _, hSc9, _, hc, hb1⟩
  have ha := Rep.lt (Rep.keep ha hb1)
  have hb := Rep.lt (Rep.keep hb hb1)
  have hM := ML.keep hM hb1
  have HB := HB.trans (hb1.mono HB.size)
  have h1 := Rep.lt (Rep.keep h1 hb1)
  have hc := Rep.lt hc
  have hSc : ∀ f, f ∈ c → ShortS f.path := fun f hf => short_of (by have := (hSc9.2 f hf).1; omega)
  clear h1 hSc9 hbig1
  obtain ⟨hcA, hcC, hcV, _⟩ := rd_slice_elim hc
  subst hcV
  obtain ⟨l, hl⟩ : ∃ l, changesOf a b = l := ⟨_, rfl⟩
  have IC := fun (q : World) (v' u' : Value) (h1 : rd (fun b => b < q.heap.size) q [v'] a) (h2 : rd (fun b => b < q.heap.size) q [u'] b) (hM : ML q) => implChangesOf v' u' a b q h1 h2 hSa hSb hM
  have SC := fun (q : World) (v' u' : Value) (h1 : rd (fun b => b < q.heap.size) q [v'] a) (h2 : rd (fun b => b < q.heap.size) q [u'] b) => specChangesOf v' u' a b q h1 h2
  rw [hl] at IC SC
  have HL := Lib.hid hl
  clear hl
  go_wp2_with fail
  refine (IC _ _ _ ha hb hM).mono ?_
  rintro e w2 ⟨p, rfl, hP, hb2⟩
  have ha := Rep.lt (Rep.keep ha hb2)
  have hb := Rep.lt (Rep.keep hb hb2)
  have hM := ML.keep hM hb2
  have HB := HB.trans (hb2.mono HB.size)
  have hc := Rep.lt (Rep.keep hc hb2)
  have hP := Rep.lt hP.rd
  obtain ⟨hPA, hPC, hPV, _⟩ := rd_slice_elim hP
  subst hPV
  go_wp2_with fail
  refine (SC _ _ _ ha hb).mono ?_
  rintro e w3 ⟨q, rfl, hQ, hb3⟩
  have ha := Rep.lt (Rep.keep ha hb3)
  have hb := Rep.lt (Rep.keep hb hb3)
  have hM := ML.keep hM hb3
  have HB := HB.trans (hb3.mono HB.size)
  have hc := Rep.lt (Rep.keep hc hb3)
  have hP := Rep.lt (Rep.keep hP hb3)
  have hQ := Rep.lt hQ.rd
  obtain ⟨hQA, hQC, hQV, _⟩ := rd_slice_elim hQ
  subst hQV
  go_wp2_with fail
  refine (smChanges_same _ _ l _ hP hQ).mono ?_
  rintro e w4 ⟨rfl, hb4⟩
  have ha := Rep.lt (Rep.keep ha hb4)
  have hb := Rep.lt (Rep.keep hb hb4)
  have hM := ML.keep hM hb4
  have HB := HB.trans (hb4.mono HB.size)
  have hc := Rep.lt (Rep.keep hc hb4)
  have hP := Rep.lt (Rep.keep hP hb4)
  have hQ := Rep.lt (Rep.keep hQ hb4)
  cases hTa : treeB a with
  | false =>
    go_wp2_with fail
    refine (treeOk_is _ a _ ha hSa hM hTa).mono ?_
    rintro e w5 ⟨rfl, hb5⟩
    have ha := Rep.lt (Rep.keep ha hb5)
    have hb := Rep.lt (Rep.keep hb hb5)
    have hM := ML.keep hM hb5
    have HB := HB.trans (hb5.mono HB.size)
    have hc := Rep.lt (Rep.keep hc hb5)
    have hP := Rep.lt (Rep.keep hP hb5)
    have hQ := Rep.lt (Rep.keep hQ hb5)
    go_wp2_with fail
    refine (SC _ _ _ ha hb).mono ?_
    rintro e w6 ⟨q2, rfl, hQ2, hb6⟩
    have ha := Rep.lt (Rep.keep ha hb6)
    have hb := Rep.lt (Rep.keep hb hb6)
    have hM := ML.keep hM hb6
    have HB := HB.trans (hb6.mono HB.size)
    have hc := Rep.lt (Rep.keep hc hb6)
    have hP := Rep.lt (Rep.keep hP hb6)
    have hQ := Rep.lt (Rep.keep hQ hb6)
    have hQ2 := Rep.lt hQ2.rd
    go_wp2_with fail
    refine (smChanges_same _ _ l _ hP hQ2).mono ?_
    rintro e w7 ⟨rfl, hb7⟩
    have ha := Rep.lt (Rep.keep ha hb7)
    have hb := Rep.lt (Rep.keep hb hb7)
    have hM := ML.keep hM hb7
    have HB := HB.trans (hb7.mono HB.size)
    have hc := Rep.lt (Rep.keep hc hb7)
    have hP := Rep.lt (Rep.keep hP hb7)
    have hQ := Rep.lt (Rep.keep hQ hb7)
    have hQ2 := Rep.lt (Rep.keep hQ2 hb7)
    go_wp2
    go_ret
    exact ⟨rfl, HB⟩
  | true =>
    go_wp2_with fail
    refine (treeOk_is _ a _ ha hSa hM hTa).mono ?_
    rintro e w8 ⟨rfl, hb8⟩
    have ha := Rep.lt (Rep.keep ha hb8)
    have hb := Rep.lt (Rep.keep hb hb8)
    have hM := ML.keep hM hb8
    have HB := HB.trans (hb8.mono HB.size)
    have hc := Rep.lt (Rep.keep hc hb8)
    have hP := Rep.lt (Rep.keep hP hb8)
    have hQ := Rep.lt (Rep.keep hQ hb8)
    cases hTb : treeB b with
    | false =>
      go_wp2_with fail
      refine (treeOk_is _ b _ hb hSb hM hTb).mono ?_
      rintro e w9 ⟨rfl, hb9⟩
      have ha := Rep.lt (Rep.keep ha hb9)
      have hb := Rep.lt (Rep.keep hb hb9)
      have hM := ML.keep hM hb9
      have HB := HB.trans (hb9.mono HB.size)
      have hc := Rep.lt (Rep.keep hc hb9)
      have hP := Rep.lt (Rep.keep hP hb9)
      have hQ := Rep.lt (Rep.keep hQ hb9)
      go_wp2_with fail
      refine (SC _ _ _ ha hb).mono ?_
      rintro e w10 ⟨q2, rfl, hQ2, hb10⟩
      have ha := Rep.lt (Rep.keep ha hb10)
      have hb := Rep.lt (Rep.keep hb hb10)
      have hM := ML.keep hM hb10
      have HB := HB.trans (hb10.mono HB.size)
      have hc := Rep.lt (Rep.keep hc hb10)
      have hP := Rep.lt (Rep.keep hP hb10)
      have hQ := Rep.lt (Rep.keep hQ hb10)
      have hQ2 := Rep.lt hQ2.rd
      go_wp2_with fail
      refine (smChanges_same _ _ l _ hP hQ2).mono ?_
      rintro e w11 ⟨rfl, hb11⟩
      have ha := Rep.lt (Rep.keep ha hb11)
      have hb := Rep.lt (Rep.keep hb hb11)
      have hM := ML.keep hM hb11
      have HB := HB.trans (hb11.mono HB.size)
      have hc := Rep.lt (Rep.keep hc hb11)
      have hP := Rep.lt (Rep.keep hP hb11)
      have hQ := Rep.lt (Rep.keep hQ hb11)
      have hQ2 := Rep.lt (Rep.keep hQ2 hb11)
      go_wp2
      go_ret
      exact ⟨rfl, HB⟩
    | true =>
      go_wp2_with fail
      refine (treeOk_is _ b _ hb hSb hM hTb).mono ?_
      rintro e w12 ⟨rfl, hb12⟩
      have ha := Rep.lt (Rep.keep ha hb12)
      have hb := Rep.lt (Rep.keep hb hb12)
      have hM := ML.keep hM hb12
      have HB := HB.trans (hb12.mono HB.size)
      have hc := Rep.lt (Rep.keep hc hb12)
      have hP := Rep.lt (Rep.keep hP hb12)
      have hQ := Rep.lt (Rep.keep hQ hb12)
      cases hTc : treeB c with
      | false =>
        go_wp2_with fail
        refine (treeOk_is _ c _ hc hSc hM hTc).mono ?_
        rintro e w13 ⟨rfl, hb13⟩
        have ha := Rep.lt (Rep.keep ha hb13)
        have hb := Rep.lt (Rep.keep hb hb13)
        have hM := ML.keep hM hb13
        have HB := HB.trans (hb13.mono HB.size)
        have hc := Rep.lt (Rep.keep hc hb13)
        have hP := Rep.lt (Rep.keep hP hb13)
        have hQ := Rep.lt (Rep.keep hQ hb13)
        go_wp2_with fail
        refine (SC _ _ _ ha hb).mono ?_
        rintro e w14 ⟨q2, rfl, hQ2, hb14⟩
        have ha := Rep.lt (Rep.keep ha hb14)
        have hb := Rep.lt (Rep.keep hb hb14)
        have hM := ML.keep hM hb14
        have HB := HB.trans (hb14.mono HB.size)
        have hc := Rep.lt (Rep.keep hc hb14)
        have hP := Rep.lt (Rep.keep hP hb14)
        have hQ := Rep.lt (Rep.keep hQ hb14)
        have hQ2 := Rep.lt hQ2.rd
        go_wp2_with fail
        refine (smChanges_same _ _ l _ hP hQ2).mono ?_
        rintro e w15 ⟨rfl, hb15⟩
        have ha := Rep.lt (Rep.keep ha hb15)
        have hb := Rep.lt (Rep.keep hb hb15)
        have hM := ML.keep hM hb15
        have HB := HB.trans (hb15.mono HB.size)
        have hc := Rep.lt (Rep.keep hc hb15)
        have hP := Rep.lt (Rep.keep hP hb15)
        have hQ := Rep.lt (Rep.keep hQ hb15)
        have hQ2 := Rep.lt (Rep.keep hQ2 hb15)
        go_wp2
        go_ret
        exact ⟨rfl, HB⟩
      | true =>
        go_wp2_with fail
        refine (treeOk_is _ c _ hc hSc hM hTc).mono ?_
        rintro e w16 ⟨rfl, hb16⟩
        have ha := Rep.lt (Rep.keep ha hb16)
        have hb := Rep.lt (Rep.keep hb hb16)
        have hM := ML.keep hM hb16
        have HB := HB.trans (hb16.mono HB.size)
        have hc := Rep.lt (Rep.keep hc hb16)
        have hP := Rep.lt (Rep.keep hP hb16)
        have hQ := Rep.lt (Rep.keep hQ hb16)
        clear hQ SC IC
        have hdo : changesDo a l = (b, true) := by rw [← HL.out]; exact changes_do hTa hTb
        have hSl : ∀ c, c ∈ l → ShortS c.path ∧ ShortS c.dst := by rw [← HL.out]; exact change_short hTa hTb (short_of (by decide)) hSa hSb
        obtain ⟨m, hm⟩ : ∃ m, changesOf b c = m := ⟨_, rfl⟩
        obtain ⟨n, hn⟩ : ∃ n, changesOf a c = n := ⟨_, rfl⟩
        have hdm : changesDo b m = (c, true) := by rw [← hm]; exact changes_do hTb hTc
        have hdn : changesDo a n = (c, true) := by rw [← hn]; exact changes_do hTa hTc
        have hSm : ∀ c, c ∈ m → ShortS c.path ∧ ShortS c.dst := by rw [← hm]; exact change_short hTb hTc (short_of (by decide)) hSb hSc
        have hSn : ∀ c, c ∈ n → ShortS c.path ∧ ShortS c.dst := by rw [← hn]; exact change_short hTa hTc (short_of (by decide)) hSa hSc
        have ID := fun (q : World) (v' u' : Value) (h1 : rd (fun b => b < q.heap.size) q [v'] a) (h2 : rd (fun b => b < q.heap.size) q [u'] l) (hM : ML q) => implChangesDo v' u' a l q h1 h2 hSa hSl hM
        have IM := fun (q : World) (v' u' : Value) (h1 : rd (fun b => b < q.heap.size) q [v'] b) (h2 : rd (fun b => b < q.heap.size) q [u'] m) (hM : ML q) => implChangesDo v' u' b m q h1 h2 hSb hSm hM
        have IN := fun (q : World) (v' u' : Value) (h1 : rd (fun b => b < q.heap.size) q [v'] a) (h2 : rd (fun b => b < q.heap.size) q [u'] n) (hM : ML q) => implChangesDo v' u' a n q h1 h2 hSa hSn hM
        have JM := fun (q : World) (v' u' : Value) (h1 : rd (fun b => b < q.heap.size) q [v'] b) (h2 : rd (fun b => b < q.heap.size) q [u'] c) (hM : ML q) => implChangesOf v' u' b c q h1 h2 hSb hSc hM
        have JN := fun (q : World) (v' u' : Value) (h1 : rd (fun b => b < q.heap.size) q [v'] a) (h2 : rd (fun b => b < q.heap.size) q [u'] c) (hM : ML q) => implChangesOf v' u' a c q h1 h2 hSa hSc hM
        rw [hdo] at ID
        rw [hdm] at IM
        rw [hdn] at IN
        rw [hm] at JM
        rw [hn] at JN
        clear hdo hdm hdn hm hn hTa hTb hTc
        go_wp2_with fail
        refine (ID _ _ _ ha hP hM).mono ?_
        rintro e w17 ⟨x, rfl, hX, hb17⟩
        have ha := Rep.lt (Rep.keep ha hb17)
        have hb := Rep.lt (Rep.keep hb hb17)
        have hM := ML.keep hM hb17
        have HB := HB.trans (hb17.mono HB.size)
        have hc := Rep.lt (Rep.keep hc hb17)
        have hP := Rep.lt (Rep.keep hP hb17)
        have hX := Rep.lt hX
        obtain ⟨hXA, hXC, hXV, _⟩ := rd_slice_elim hX
        subst hXV
        go_wp2_with fail
        refine (JM _ _ _ hb hc hM).mono ?_
        rintro e w18 ⟨mv, rfl, hMV, hb18⟩
        have ha := Rep.lt (Rep.keep ha hb18)
        have hb := Rep.lt (Rep.keep hb hb18)
        have hM := ML.keep hM hb18
        have HB := HB.trans (hb18.mono HB.size)
        have hc := Rep.lt (Rep.keep hc hb18)
        have hP := Rep.lt (Rep.keep hP hb18)
        have hX := Rep.lt (Rep.keep hX hb18)
        have hMV := Rep.lt hMV.rd
        obtain ⟨hMVA, hMVC, hMVV, _⟩ := rd_slice_elim hMV
        subst hMVV
        go_wp2_with fail
        refine (IM _ _ _ hX hMV hM).mono ?_
        rintro e w19 ⟨y, rfl, hY, hb19⟩
        have ha := Rep.lt (Rep.keep ha hb19)
        have hb := Rep.lt (Rep.keep hb hb19)
        have hM := ML.keep hM hb19
        have HB := HB.trans (hb19.mono HB.size)
        have hc := Rep.lt (Rep.keep hc hb19)
        have hP := Rep.lt (Rep.keep hP hb19)
        have hX := Rep.lt (Rep.keep hX hb19)
        have hMV := Rep.lt (Rep.keep hMV hb19)
        have hY := Rep.lt hY
        obtain ⟨hYA, hYC, hYV, _⟩ := rd_slice_elim hY
        subst hYV
        go_wp2_with fail
        refine (JN _ _ _ ha hc hM).mono ?_
        rintro e w20 ⟨nv, rfl, hNV, hb20⟩
        have ha := Rep.lt (Rep.keep ha hb20)
        have hb := Rep.lt (Rep.keep hb hb20)
        have hM := ML.keep hM hb20
        have HB := HB.trans (hb20.mono HB.size)
        have hc := Rep.lt (Rep.keep hc hb20)
        have hP := Rep.lt (Rep.keep hP hb20)
        have hX := Rep.lt (Rep.keep hX hb20)
        have hMV := Rep.lt (Rep.keep hMV hb20)
        have hY := Rep.lt (Rep.keep hY hb20)
        have hNV := Rep.lt hNV.rd
        obtain ⟨hNVA, hNVC, hNVV, _⟩ := rd_slice_elim hNV
        subst hNVV
        go_wp2_with fail
        refine (IN _ _ _ ha hNV hM).mono ?_
        rintro e w21 ⟨z, rfl, hZ, hb21⟩
        have ha := Rep.lt (Rep.keep ha hb21)
        have hb := Rep.lt (Rep.keep hb hb21)
        have hM := ML.keep hM hb21
        have HB := HB.trans (hb21.mono HB.size)
        have hc := Rep.lt (Rep.keep hc hb21)
        have hP := Rep.lt (Rep.keep hP hb21)
        have hX := Rep.lt (Rep.keep hX hb21)
        have hMV := Rep.lt (Rep.keep hMV hb21)
        have hY := Rep.lt (Rep.keep hY hb21)
        have hNV := Rep.lt (Rep.keep hNV hb21)
        have hZ := Rep.lt hZ
        obtain ⟨hZA, hZC, hZV, _⟩ := rd_slice_elim hZ
        subst hZV
        go_wp2_with fail
        refine (smTree_is _ _ c c _ hY hc (decide_eq_true rfl)).mono ?_
        rintro e w22 ⟨rfl, hb22⟩
        have ha := Rep.lt (Rep.keep ha hb22)
        have hb := Rep.lt (Rep.keep hb hb22)
        have hM := ML.keep hM hb22
        have HB := HB.trans (hb22.mono HB.size)
        have hc := Rep.lt (Rep.keep hc hb22)
        have hP := Rep.lt (Rep.keep hP hb22)
        have hX := Rep.lt (Rep.keep hX hb22)
        have hMV := Rep.lt (Rep.keep hMV hb22)
        have hY := Rep.lt (Rep.keep hY hb22)
        have hNV := Rep.lt (Rep.keep hNV hb22)
        have hZ := Rep.lt (Rep.keep hZ hb22)
        go_wp2_with fail
        refine (smTree_is _ _ c c _ hZ hc (decide_eq_true rfl)).mono ?_
        rintro e w23 ⟨rfl, hb23⟩
        have ha := Rep.lt (Rep.keep ha hb23)
        have hb := Rep.lt (Rep.keep hb hb23)
        have hM := ML.keep hM hb23
        have HB := HB.trans (hb23.mono HB.size)
        have hc := Rep.lt (Rep.keep hc hb23)
        have hP := Rep.lt (Rep.keep hP hb23)
        have hX := Rep.lt (Rep.keep hX hb23)
        have hMV := Rep.lt (Rep.keep hMV hb23)
        have hY := Rep.lt (Rep.keep hY hb23)
        have hNV := Rep.lt (Rep.keep hNV hb23)
        have hZ := Rep.lt (Rep.keep hZ hb23)
        go_wp2
        go_ret
        exact ⟨rfl, HB⟩
end Go.Proofs.YtlpfoekbccbhlaaGreatDoor
namespace Go.Proofs.YtlpfoekbccbhlaaGreatDoor.fnChangesOver
open Go.ChangeShapes Go.WideShapes Go.ChangeAt Go.RowKit Go.Vc
theorem named : Tryz.pinned.checked.prog.funcNamed Rows.fnChangesOverRow.func = some 4 := by kernel_rfl
theorem closed : joinedFacts Tryz.pinned.checked.prog 4 Tryz.f4 Rows.fnChangesOverSpec Rows.fnChangesOverRow = true := by kernel_rfl
theorem inst : Tryz.f4.isInstance Tryz.pinned.checked.prog Rows.fnChangesOverRow.origin Rows.fnChangesOverRow.targs := of_decide_eq_true (by kernel_rfl)
theorem wrap : Tryz.f4.isWrapper Tryz.pinned.checked.prog Rows.fnChangesOverRow.wrapper Rows.fnChangesOverRow.mainSum := by unfold Func.isWrapper; first | (rw [if_pos (by decide +kernel)]; kernel_rfl) | (rw [if_neg (by decide +kernel)]; exact ⟨rfl, rfl⟩)
end Go.Proofs.YtlpfoekbccbhlaaGreatDoor.fnChangesOver
