/-
  The walk of a law: FnPatchOver.
-/
import Derived.Test.YtfpneepnnoldeaaDrawPL
import Derived.Test.YtfpneepnnoldeaaWPOv
set_option linter.unusedVariables false
namespace Go.Proofs.Ytfpneepnnoldeaa
open Go.RowKit Go.Vc
open Go.Vc.Rep (rd)
open Go.Vc.Own (own)
theorem smTexts_po {S T : Nat → Prop} (v u : Value) (xs ys : List ByteArray) (w : World) (hv : rd S w [v] xs) (hu : rd T w [u] ys) {b : Bool} (h : decide (xs = ys) = b) :
    Calls Try.prog 8 #[v, u] w fun e w' => e = .returned (.bool b) ∧ Below w.heap.size w w' :=
  (smTexts_is v u xs ys w hv hu h).mono fun e w' h' => by
    obtain ⟨h1, n, rfl⟩ := h'
    exact ⟨h1, below_drewN (Below.refl _ _) n⟩
set_option maxHeartbeats 8000000 in
set_option maxRecDepth 100000 in
theorem lawFnPatchOver (v0 : Value) (bs : List UInt8) (w : World) (h0 : rd (fun b => b < w.heap.size) w [v0] bs) :
    Calls Try.prog 5 #[v0] w fun e w' => e = .returned (.bool true) ∧ Below w.heap.size w w' := by
  obtain ⟨a0, c0, rfl, hs0⟩ := rd_slice_elim h0
  have hle := hs0.le
  by_cases hbig : 1048576 < bs.length
  · go_enter Try.func5, Try.ntmps5
    go_wp2
    go_ret
    exact ⟨rfl, Below.refl _ _⟩
  go_enter Try.func5, Try.ntmps5
  go_wp2_with fail
  refine (drawPatchOver_any _ bs w h0 (by omega)).mono ?_
  rintro e w0 ⟨v, u1, u2, t, a, b, rfl, ht, ha, hb, HB⟩
  have ht := Rep.lt ht
  have ha := Rep.lt ha
  have hb := Rep.lt hb
  obtain ⟨d, hd⟩ : ∃ d, (pOver t a b).1 = d := ⟨_, rfl⟩
  obtain ⟨o, ho⟩ : ∃ o, (pOver t a b).2 = o := ⟨_, rfl⟩
  have HD := Lib.hid hd
  have HO := Lib.hid ho
  clear h0 hs0 hle hbig hd ho
  obtain ⟨htA, htC, htV, _⟩ := rd_slice_elim ht
  subst htV
  obtain ⟨haA, haC, haV, _⟩ := rd_slice_elim ha
  subst haV
  obtain ⟨hbA, hbC, hbV, _⟩ := rd_slice_elim hb
  subst hbV
  go_wp2_with fail
  refine (implPatchOver _ _ _ t a b _ ht ha hb HO.out HD.out).mono ?_
  rintro e w1 ⟨p, rfl, hP, hb1⟩
  have ht := Rep.lt (Rep.keep ht hb1)
  have ha := Rep.lt (Rep.keep ha hb1)
  have hb := Rep.lt (Rep.keep hb hb1)
  have HB := HB.trans (hb1.mono HB.size)
  have hP := Rep.lt hP.rd
  obtain ⟨hPA, hPC, hPV, _⟩ := rd_slice_elim hP
  subst hPV
  go_wp2_with fail
  refine (specPatchOver _ _ _ t a b _ ht ha hb HO.out HD.out).mono ?_
  rintro e w2 ⟨q, rfl, hQ, hb2⟩
  have ht := Rep.lt (Rep.keep ht hb2)
  have ha := Rep.lt (Rep.keep ha hb2)
  have hb := Rep.lt (Rep.keep hb hb2)
  have HB := HB.trans (hb2.mono HB.size)
  have hP := Rep.lt (Rep.keep hP hb2)
  have hQ := Rep.lt hQ.rd
  obtain ⟨hQA, hQC, hQV, _⟩ := rd_slice_elim hQ
  subst hQV
  have hoo : (o != o) = false := by simp
  have hoe : (o == o) = true := by simp
  go_wp2_with fail
  refine (smHunks_same _ _ d _ hP hQ).mono ?_
  rintro e w3 ⟨rfl, hb3⟩
  have ht := Rep.lt (Rep.keep ht hb3)
  have ha := Rep.lt (Rep.keep ha hb3)
  have hb := Rep.lt (Rep.keep hb hb3)
  have HB := HB.trans (hb3.mono HB.size)
  have hP := Rep.lt (Rep.keep hP hb3)
  have hQ := Rep.lt (Rep.keep hQ hb3)
  cases o with
  | false =>
    go_wp2_with fail
    refine (smHunks_same _ _ d _ hP hQ).mono ?_
    rintro e w4 ⟨rfl, hb4⟩
    have ht := Rep.lt (Rep.keep ht hb4)
    have ha := Rep.lt (Rep.keep ha hb4)
    have hb := Rep.lt (Rep.keep hb hb4)
    have HB := HB.trans (hb4.mono HB.size)
    have hP := Rep.lt (Rep.keep hP hb4)
    have hQ := Rep.lt (Rep.keep hQ hb4)
    go_wp2
    go_ret
    exact ⟨rfl, HB⟩
  | true =>
    obtain ⟨x, y, h1, h2, h3⟩ := pOver_do (t := t) (a := a) (b := b) (d := d) (by rw [← HD.out, ← HO.out])
    have I1 := fun (q : World) (v' u' : Value) (hv : rd (fun b => b < q.heap.size) q [v'] t) (hu : rd (fun b => b < q.heap.size) q [u'] a) => implPatchDo v' t u' a q hv hu
    have I2 := fun (q : World) (v' u' : Value) (hv : rd (fun b => b < q.heap.size) q [v'] x) (hu : rd (fun b => b < q.heap.size) q [u'] b) => implPatchDo v' x u' b q hv hu
    have I3 := fun (q : World) (v' u' : Value) (hv : rd (fun b => b < q.heap.size) q [v'] t) (hu : rd (fun b => b < q.heap.size) q [u'] d) => implPatchDo v' t u' d q hv hu
    rw [h1] at I1
    rw [h2] at I2
    rw [h3] at I3
    clear h1 h2 h3 hoo hoe
    go_wp2_with fail
    refine (I1 _ _ _ ht ha).mono ?_
    rintro e w5 ⟨xv, rfl, hX, hb5⟩
    have ht := Rep.lt (Rep.keep ht hb5)
    have ha := Rep.lt (Rep.keep ha hb5)
    have hb := Rep.lt (Rep.keep hb hb5)
    have HB := HB.trans (hb5.mono HB.size)
    have hP := Rep.lt (Rep.keep hP hb5)
    have hX := Rep.lt hX.rd
    obtain ⟨hXA, hXC, hXV, _⟩ := rd_slice_elim hX
    subst hXV
    go_wp2_with fail
    refine (I2 _ _ _ hX hb).mono ?_
    rintro e w6 ⟨yv, rfl, hY, hb6⟩
    have ht := Rep.lt (Rep.keep ht hb6)
    have ha := Rep.lt (Rep.keep ha hb6)
    have hb := Rep.lt (Rep.keep hb hb6)
    have HB := HB.trans (hb6.mono HB.size)
    have hP := Rep.lt (Rep.keep hP hb6)
    have hX := Rep.lt (Rep.keep hX hb6)
    have hY := Rep.lt hY.rd
    obtain ⟨hYA, hYC, hYV, _⟩ := rd_slice_elim hY
    subst hYV
    go_wp2_with fail
    refine (I3 _ _ _ ht hP).mono ?_
    rintro e w7 ⟨zv, rfl, hZ, hb7⟩
    have ht := Rep.lt (Rep.keep ht hb7)
    have ha := Rep.lt (Rep.keep ha hb7)
    have hb := Rep.lt (Rep.keep hb hb7)
    have HB := HB.trans (hb7.mono HB.size)
    have hP := Rep.lt (Rep.keep hP hb7)
    have hX := Rep.lt (Rep.keep hX hb7)
    have hY := Rep.lt (Rep.keep hY hb7)
    have hZ := Rep.lt hZ.rd
    obtain ⟨hZA, hZC, hZV, _⟩ := rd_slice_elim hZ
    subst hZV
    go_wp2_with fail
    refine (smTexts_po _ _ y y _ hZ hY (decide_eq_true rfl)).mono ?_
    rintro e w8 ⟨rfl, hb8⟩
    have ht := Rep.lt (Rep.keep ht hb8)
    have ha := Rep.lt (Rep.keep ha hb8)
    have hb := Rep.lt (Rep.keep hb hb8)
    have HB := HB.trans (hb8.mono HB.size)
    have hP := Rep.lt (Rep.keep hP hb8)
    have hX := Rep.lt (Rep.keep hX hb8)
    have hY := Rep.lt (Rep.keep hY hb8)
    have hZ := Rep.lt (Rep.keep hZ hb8)
    go_wp2
    go_ret
    exact ⟨rfl, HB⟩
end Go.Proofs.Ytfpneepnnoldeaa
