/-
  The walk of a law: FnChangesOf. / Closed facts of the row of the law 'FnChangesOf'.
-/
import Derived.Test.YtlpfoekbccbhlaaGreatDoorVDJ
import Derived.Test.YtlpfoekbccbhlaaGreatDoorWChO
import Derived.Test.YtlpfoekbccbhlaaGreatDoorVCS
import Derived.Test.YtlpfoekbccbhlaaGreatDoorWChD
import Derived.Test.YtlpfoekbccbhlaaGreatDoorVCH
import Derived.Test.YtlpfoekbccbhlaaGreatDoorVSM
import Derived.Test.YtlpfoekbccbhlaaGreatDoorVZ
set_option linter.unusedVariables false
namespace Go.Proofs.YtlpfoekbccbhlaaGreatDoor
open Go.RowKit Go.Vc
open Go.Vc.Rep (rd)
open Go.Vc.Own (own)
set_option maxHeartbeats 8000000 in
set_option maxRecDepth 100000 in
theorem lawFnChangesOf (v0 : Value) (bs : List UInt8) (w : World) (h0 : rd (fun b => b < w.heap.size) w [v0] bs) (hM : ML w) :
    Calls Tryz.prog 3 #[v0] w fun e w' => e = .returned (.bool true) ∧ Below w.heap.size w w' := by
  obtain ⟨a0, c0, rfl, hs0⟩ := rd_slice_elim h0
  have hle := hs0.le
  by_cases hbig : 1048576 < bs.length
  · go_enter Tryz.func3, Tryz.ntmps3
    go_wp2
    go_ret
    exact ⟨rfl, Below.refl _ _⟩
  go_enter Tryz.func3, Tryz.ntmps3
  go_wp2_with fail
  refine (drawChangesOf_any _ bs w h0 (by omega)).mono ?_
  rintro e w0 ⟨v, u, a, b, rfl, hSa9, hSb9, ha, hb, HB⟩
  have ha := Rep.lt ha
  have hb := Rep.lt hb
  have hM := hM.keep HB
  have hSa : ∀ f, f ∈ a → ShortS f.path := fun f hf => short_of (by have := (hSa9.2 f hf).1; omega)
  have hSb : ∀ f, f ∈ b → ShortS f.path := fun f hf => short_of (by have := (hSb9.2 f hf).1; omega)
  clear h0 hs0 hle hbig hSa9 hSb9
  obtain ⟨haA, haC, haV, _⟩ := rd_slice_elim ha
  subst haV
  obtain ⟨hbA, hbC, hbV, _⟩ := rd_slice_elim hb
  subst hbV
  obtain ⟨l, hl⟩ : ∃ l, changesOf a b = l := ⟨_, rfl⟩
  have IC := fun (q : World) (v' u' : Value) (h1 : rd (fun b => b < q.heap.size) q [v'] a) (h2 : rd (fun b => b < q.heap.size) q [u'] b) (hM : ML q) => implChangesOf v' u' a b q h1 h2 hSa hSb hM
  have SC := fun (q : World) (v' u' : Value) (h1 : rd (fun b => b < q.heap.size) q [v'] a) (h2 : rd (fun b => b < q.heap.size) q [u'] b) => specChangesOf v' u' a b q h1 h2
  rw [hl] at IC SC
  have HL := Lib.hid hl
  clear hl
  go_wp2_with fail
  refine (IC _ _ _ ha hb hM).mono ?_
  rintro e w1 ⟨p, rfl, hP, hb1⟩
  have ha := Rep.lt (Rep.keep ha hb1)
  have hb := Rep.lt (Rep.keep hb hb1)
  have hM := ML.keep hM hb1
  have HB := HB.trans (hb1.mono HB.size)
  have hP := Rep.lt hP.rd
  obtain ⟨hPA, hPC, hPV, _⟩ := rd_slice_elim hP
  subst hPV
  go_wp2_with fail
  refine (SC _ _ _ ha hb).mono ?_
  rintro e w2 ⟨q, rfl, hQ, hb2⟩
  have ha := Rep.lt (Rep.keep ha hb2)
  have hb := Rep.lt (Rep.keep hb hb2)
  have hM := ML.keep hM hb2
  have HB := HB.trans (hb2.mono HB.size)
  have hP := Rep.lt (Rep.keep hP hb2)
  have hQ := Rep.lt hQ.rd
  obtain ⟨hQA, hQC, hQV, _⟩ := rd_slice_elim hQ
  subst hQV
  go_wp2_with fail
  refine (smChanges_same _ _ l _ hP hQ).mono ?_
  rintro e w3 ⟨rfl, hb3⟩
  have ha := Rep.lt (Rep.keep ha hb3)
  have hb := Rep.lt (Rep.keep hb hb3)
  have hM := ML.keep hM hb3
  have HB := HB.trans (hb3.mono HB.size)
  have hP := Rep.lt (Rep.keep hP hb3)
  have hQ := Rep.lt (Rep.keep hQ hb3)
  cases hTa : treeB a with
  | false =>
    go_wp2_with fail
    refine (treeOk_is _ a _ ha hSa hM hTa).mono ?_
    rintro e w4 ⟨rfl, hb4⟩
    have ha := Rep.lt (Rep.keep ha hb4)
    have hb := Rep.lt (Rep.keep hb hb4)
    have hM := ML.keep hM hb4
    have HB := HB.trans (hb4.mono HB.size)
    have hP := Rep.lt (Rep.keep hP hb4)
    have hQ := Rep.lt (Rep.keep hQ hb4)
    go_wp2_with fail
    refine (SC _ _ _ ha hb).mono ?_
    rintro e w5 ⟨q2, rfl, hQ2, hb5⟩
    have ha := Rep.lt (Rep.keep ha hb5)
    have hb := Rep.lt (Rep.keep hb hb5)
    have hM := ML.keep hM hb5
    have HB := HB.trans (hb5.mono HB.size)
    have hP := Rep.lt (Rep.keep hP hb5)
    have hQ := Rep.lt (Rep.keep hQ hb5)
    have hQ2 := Rep.lt hQ2.rd
    go_wp2_with fail
    refine (smChanges_same _ _ l _ hP hQ2).mono ?_
    rintro e w6 ⟨rfl, hb6⟩
    have ha := Rep.lt (Rep.keep ha hb6)
    have hb := Rep.lt (Rep.keep hb hb6)
    have hM := ML.keep hM hb6
    have HB := HB.trans (hb6.mono HB.size)
    have hP := Rep.lt (Rep.keep hP hb6)
    have hQ := Rep.lt (Rep.keep hQ hb6)
    have hQ2 := Rep.lt (Rep.keep hQ2 hb6)
    go_wp2
    go_ret
    exact ⟨rfl, HB⟩
  | true =>
    go_wp2_with fail
    refine (treeOk_is _ a _ ha hSa hM hTa).mono ?_
    rintro e w7 ⟨rfl, hb7⟩
    have ha := Rep.lt (Rep.keep ha hb7)
    have hb := Rep.lt (Rep.keep hb hb7)
    have hM := ML.keep hM hb7
    have HB := HB.trans (hb7.mono HB.size)
    have hP := Rep.lt (Rep.keep hP hb7)
    have hQ := Rep.lt (Rep.keep hQ hb7)
    cases hTb : treeB b with
    | false =>
      go_wp2_with fail
      refine (treeOk_is _ b _ hb hSb hM hTb).mono ?_
      rintro e w8 ⟨rfl, hb8⟩
      have ha := Rep.lt (Rep.keep ha hb8)
      have hb := Rep.lt (Rep.keep hb hb8)
      have hM := ML.keep hM hb8
      have HB := HB.trans (hb8.mono HB.size)
      have hP := Rep.lt (Rep.keep hP hb8)
      have hQ := Rep.lt (Rep.keep hQ hb8)
      go_wp2_with fail
      refine (SC _ _ _ ha hb).mono ?_
      rintro e w9 ⟨q2, rfl, hQ2, hb9⟩
      have ha := Rep.lt (Rep.keep ha hb9)
      have hb := Rep.lt (Rep.keep hb hb9)
      have hM := ML.keep hM hb9
      have HB := HB.trans (hb9.mono HB.size)
      have hP := Rep.lt (Rep.keep hP hb9)
      have hQ := Rep.lt (Rep.keep hQ hb9)
      have hQ2 := Rep.lt hQ2.rd
      go_wp2_with fail
      refine (smChanges_same _ _ l _ hP hQ2).mono ?_
      rintro e w10 ⟨rfl, hb10⟩
      have ha := Rep.lt (Rep.keep ha hb10)
      have hb := Rep.lt (Rep.keep hb hb10)
      have hM := ML.keep hM hb10
      have HB := HB.trans (hb10.mono HB.size)
      have hP := Rep.lt (Rep.keep hP hb10)
      have hQ := Rep.lt (Rep.keep hQ hb10)
      have hQ2 := Rep.lt (Rep.keep hQ2 hb10)
      go_wp2
      go_ret
      exact ⟨rfl, HB⟩
    | true =>
      go_wp2_with fail
      refine (treeOk_is _ b _ hb hSb hM hTb).mono ?_
      rintro e w11 ⟨rfl, hb11⟩
      have ha := Rep.lt (Rep.keep ha hb11)
      have hb := Rep.lt (Rep.keep hb hb11)
      have hM := ML.keep hM hb11
      have HB := HB.trans (hb11.mono HB.size)
      have hP := Rep.lt (Rep.keep hP hb11)
      have hQ := Rep.lt (Rep.keep hQ hb11)
      clear hQ SC IC
      have hdo : changesDo a l = (b, true) := by rw [← HL.out]; exact changes_do hTa hTb
      have hok : changesB l = true := by rw [← HL.out]; exact (changes_of hTa hTb).1
      have hSl : ∀ c, c ∈ l → ShortS c.path ∧ ShortS c.dst := by rw [← HL.out]; exact change_short hTa hTb (short_of (by decide)) hSa hSb
      have hsame : changesOf a a = [] := changes_same hTa
      have ID := fun (q : World) (v' u' : Value) (h1 : rd (fun b => b < q.heap.size) q [v'] a) (h2 : rd (fun b => b < q.heap.size) q [u'] l) (hM : ML q) => implChangesDo v' u' a l q h1 h2 hSa hSl hM
      have IS := fun (q : World) (v' u' : Value) (h1 : rd (fun b => b < q.heap.size) q [v'] a) (h2 : rd (fun b => b < q.heap.size) q [u'] a) (hM : ML q) => implChangesOf v' u' a a q h1 h2 hSa hSa hM
      rw [hdo] at ID
      rw [hsame] at IS
      clear hdo hsame hTa hTb
      go_wp2_with fail
      refine (ID _ _ _ ha hP hM).mono ?_
      rintro e w12 ⟨x, rfl, hX, hb12⟩
      have ha := Rep.lt (Rep.keep ha hb12)
      have hb := Rep.lt (Rep.keep hb hb12)
      have hM := ML.keep hM hb12
      have HB := HB.trans (hb12.mono HB.size)
      have hP := Rep.lt (Rep.keep hP hb12)
      have hX := Rep.lt hX
      obtain ⟨hXA, hXC, hXV, _⟩ := rd_slice_elim hX
      subst hXV
      go_wp2_with fail
      refine (changesOk_is _ l _ hP hSl hM hok).mono ?_
      rintro e w13 ⟨rfl, hb13⟩
      have ha := Rep.lt (Rep.keep ha hb13)
      have hb := Rep.lt (Rep.keep hb hb13)
      have hM := ML.keep hM hb13
      have HB := HB.trans (hb13.mono HB.size)
      have hP := Rep.lt (Rep.keep hP hb13)
      have hX := Rep.lt (Rep.keep hX hb13)
      go_wp2_with fail
      refine (smTree_is _ _ b b _ hX hb (decide_eq_true rfl)).mono ?_
      rintro e w14 ⟨rfl, hb14⟩
      have ha := Rep.lt (Rep.keep ha hb14)
      have hb := Rep.lt (Rep.keep hb hb14)
      have hM := ML.keep hM hb14
      have HB := HB.trans (hb14.mono HB.size)
      have hP := Rep.lt (Rep.keep hP hb14)
      have hX := Rep.lt (Rep.keep hX hb14)
      go_wp2_with fail
      refine (IS _ _ _ ha ha hM).mono ?_
      rintro e w15 ⟨y, rfl, hY, hb15⟩
      have ha := Rep.lt (Rep.keep ha hb15)
      have hb := Rep.lt (Rep.keep hb hb15)
      have hM := ML.keep hM hb15
      have HB := HB.trans (hb15.mono HB.size)
      have hP := Rep.lt (Rep.keep hP hb15)
      have hX := Rep.lt (Rep.keep hX hb15)
      have hY := Rep.lt hY.rd
      obtain ⟨hYA, hYC, hYV, _⟩ := rd_slice_elim hY
      subst hYV
      go_wp2
      go_ret
      exact ⟨rfl, HB⟩
end Go.Proofs.YtlpfoekbccbhlaaGreatDoor
namespace Go.Proofs.YtlpfoekbccbhlaaGreatDoor.fnChangesOf
open Go.ChangeShapes Go.WideShapes Go.ChangeAt Go.RowKit Go.Vc
theorem named : Tryz.pinned.checked.prog.funcNamed Rows.fnChangesOfRow.func = some 3 := by kernel_rfl
theorem closed : joinedFacts Tryz.pinned.checked.prog 3 Tryz.f3 Rows.fnChangesOfSpec Rows.fnChangesOfRow = true := by kernel_rfl
theorem inst : Tryz.f3.isInstance Tryz.pinned.checked.prog Rows.fnChangesOfRow.origin Rows.fnChangesOfRow.targs := of_decide_eq_true (by kernel_rfl)
theorem wrap : Tryz.f3.isWrapper Tryz.pinned.checked.prog Rows.fnChangesOfRow.wrapper Rows.fnChangesOfRow.mainSum := by unfold Func.isWrapper; first | (rw [if_pos (by decide +kernel)]; kernel_rfl) | (rw [if_neg (by decide +kernel)]; exact ⟨rfl, rfl⟩)
end Go.Proofs.YtlpfoekbccbhlaaGreatDoor.fnChangesOf
