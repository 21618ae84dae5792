/-
  The walk of a law: FnJoinFree.
-/
import Derived.Test.YtegknjcifmenpaaGreatDoorVDJ
import Derived.Test.YtegknjcifmenpaaGreatDoorWJoinT
import Derived.Test.YtegknjcifmenpaaGreatDoorVJS
set_option linter.unusedVariables false
namespace Go.Proofs.YtegknjcifmenpaaGreatDoor
open Go.RowKit Go.Vc
open Go.Vc.Rep (rd)
open Go.Vc.Own (own)

set_option maxHeartbeats 8000000 in
set_option maxRecDepth 100000 in
theorem lawFnJoinFree (v0 : Value) (bs : List UInt8) (w : World) (h0 : rd (fun b => b < w.heap.size) w [v0] bs) (hM : ML w) :
    Calls Tryz.prog 6 #[v0] w fun e w' => e = .returned (.bool true) ∧ Below w.heap.size w w' := by
  obtain ⟨a0, c0, rfl, hs0⟩ := rd_slice_elim h0
  have hle := hs0.le
  by_cases hbig : 1048576 < bs.length
  · go_enter Tryz.func6, Tryz.ntmps6
    go_wp2
    go_ret
    exact ⟨rfl, Below.refl _ _⟩
  go_enter Tryz.func6, Tryz.ntmps6
  go_wp2_with fail
  refine (drawJoinFree_any _ bs w h0 (by omega)).mono ?_
  rintro e w0 ⟨v, u, x, o, a, b, rfl, hSo9, hSa9, hSb9, ho, ha, hb, HB⟩
  have ho := Rep.lt ho
  have ha := Rep.lt ha
  have hb := Rep.lt hb
  obtain ⟨ao, co, hvo, _⟩ := rd_slice_elim ho
  subst hvo
  obtain ⟨aa, ca, hva, _⟩ := rd_slice_elim ha
  subst hva
  obtain ⟨ab, cb, hvb, _⟩ := rd_slice_elim hb
  subst hvb
  have hM := hM.keep HB
  have hSo : ∀ f, f ∈ o → ShortS f.path := fun f hf => short_of (by have := (hSo9.2 f hf).1; omega)
  have hSa : ∀ f, f ∈ a → ShortS f.path := fun f hf => short_of (by have := (hSa9.2 f hf).1; omega)
  have hSb : ∀ f, f ∈ b → ShortS f.path := fun f hf => short_of (by have := (hSb9.2 f hf).1; omega)
  clear h0 hs0 hle hbig hSo9 hSa9 hSb9
  obtain ⟨c, hc⟩ : ∃ c, joinFree o a b = c := ⟨_, rfl⟩
  have IT := fun (q : World) (v1 v2 v3 : Value) (h1 : rd (fun b => b < q.heap.size) q [v1] o) (h2 : rd (fun b => b < q.heap.size) q [v2] a) (h3 : rd (fun b => b < q.heap.size) q [v3] b) (hM : ML q) => implJoinFree v1 v2 v3 o a b q h1 h2 h3 hSo hSa hSb hM hc
  have ST := fun (q : World) (v1 v2 v3 : Value) (h1 : rd (fun b => b < q.heap.size) q [v1] o) (h2 : rd (fun b => b < q.heap.size) q [v2] a) (h3 : rd (fun b => b < q.heap.size) q [v3] b) => specJoinFree v1 v2 v3 o a b q h1 h2 h3 hc
  have HC := Lib.hid hc
  clear hc
  go_wp2_with fail
  refine (IT _ _ _ _ ho ha hb hM).mono ?_
  rintro e w1 ⟨rfl, hb1⟩
  have ho := Rep.lt (Rep.keep ho hb1)
  have ha := Rep.lt (Rep.keep ha hb1)
  have hb := Rep.lt (Rep.keep hb hb1)
  have hM := ML.keep hM hb1
  have HB := HB.trans (hb1.mono HB.size)
  go_wp2_with fail
  refine (ST _ _ _ _ ho ha hb).mono ?_
  rintro e w2 ⟨rfl, hb2⟩
  have ho := Rep.lt (Rep.keep ho hb2)
  have ha := Rep.lt (Rep.keep ha hb2)
  have hb := Rep.lt (Rep.keep hb hb2)
  have hM := ML.keep hM hb2
  have HB := HB.trans (hb2.mono HB.size)
  cases c with
  | false =>
    go_wp2_with fail
    refine (ST _ _ _ _ ho ha hb).mono ?_
    rintro e w3 ⟨rfl, hb3⟩
    have ho := Rep.lt (Rep.keep ho hb3)
    have ha := Rep.lt (Rep.keep ha hb3)
    have hb := Rep.lt (Rep.keep hb hb3)
    have hM := ML.keep hM hb3
    have HB := HB.trans (hb3.mono HB.size)
    go_wp2
    go_ret
    exact ⟨rfl, HB⟩
  | true =>
    go_wp2_with fail
    refine (implJoinOf _ _ _ o a b _ ho ha hb hSo hSa hSb hM).mono ?_
    rintro e w4 ⟨p, q, rfl, hP, hQ, hb4⟩
    have ho := Rep.lt (Rep.keep ho hb4)
    have ha := Rep.lt (Rep.keep ha hb4)
    have hb := Rep.lt (Rep.keep hb hb4)
    have hM := ML.keep hM hb4
    have HB := HB.trans (hb4.mono HB.size)
    have hQ := Rep.lt hQ
    have hlaw := free_law HC.out
    obtain ⟨J, hJ⟩ : ∃ J, J = joinOf o a b := ⟨_, rfl⟩
    rw [← hJ] at hQ hP hlaw
    obtain ⟨t, cs⟩ := J
    simp only at hQ hP hlaw
    obtain ⟨pA, pC, hpV, _⟩ := hP.shape
    subst hpV
    obtain ⟨qA, qC, hqV, _⟩ := rd_slice_elim hQ
    subst hqV
    clear hJ hP IT ST
    rcases hlaw with hcs | hcs
    · subst hcs
      go_wp2_with fail
      refine (implJoinFree _ _ _ o b a _ ho hb ha hSo hSb hSa hM (free_swap HC.out)).mono ?_
      rintro e w5 ⟨rfl, hb5⟩
      have ho := Rep.lt (Rep.keep ho hb5)
      have ha := Rep.lt (Rep.keep ha hb5)
      have hb := Rep.lt (Rep.keep hb hb5)
      have hM := ML.keep hM hb5
      have HB := HB.trans (hb5.mono HB.size)
      go_wp2
      go_ret
      exact ⟨rfl, HB⟩
    · subst hcs
      obtain ⟨g, off, hgo, hc0, hc1, _, _⟩ := (rd_slice_of hQ).2.clash (i := 0) (by simp)
      subst hgo
      simp only [List.getElem_cons_zero, Nat.zero_mul, Nat.add_zero] at hc0 hc1
      clear hQ
      go_wp2_with fail
      refine (implJoinFree _ _ _ o b a _ ho hb ha hSo hSb hSa hM (free_swap HC.out)).mono ?_
      rintro e w6 ⟨rfl, hb6⟩
      have ho := Rep.lt (Rep.keep ho hb6)
      have ha := Rep.lt (Rep.keep ha hb6)
      have hb := Rep.lt (Rep.keep hb hb6)
      have hM := ML.keep hM hb6
      have HB := HB.trans (hb6.mono HB.size)
      have hc0 := keepc hc0 hb6
      have hc1 := keepc hc1 hb6
      go_wp2
      go_ret
      exact ⟨rfl, HB⟩
end Go.Proofs.YtegknjcifmenpaaGreatDoor
