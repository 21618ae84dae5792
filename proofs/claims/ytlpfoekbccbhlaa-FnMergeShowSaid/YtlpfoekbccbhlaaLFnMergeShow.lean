/-
  The walk of a law: FnMergeShow.
-/
import Derived.Test.YtlpfoekbccbhlaaDrawG
import Derived.Test.YtlpfoekbccbhlaaWMSh
import Derived.Test.YtlpfoekbccbhlaaWMSp
import Derived.Test.YtlpfoekbccbhlaaSmH
set_option linter.unusedVariables false
namespace Go.Proofs.Ytlpfoekbccbhlaa
open Go.RowKit Go.Vc
open Go.Vc.Rep (rd)
open Go.Vc.Own (own)
set_option maxHeartbeats 1000000 in
theorem drawMergeShow_any {S : Nat → Prop} (v : Value) (bs : List UInt8) (w : World) (hv : rd S w [v] bs) (hl : bs.length ≤ 1048576) :
    Calls Try.prog 5 #[v] w fun e w' => ∃ (v u x : Value) (os xs ys : List ByteArray), e = .returned (.tuple #[v, u, x]) ∧ os.length ≤ 18 ∧ xs.length ≤ 18 ∧ ys.length ≤ 18 ∧ rd (fun b => w.heap.size ≤ b) w' [v] os ∧ rd (fun b => w.heap.size ≤ b) w' [u] xs ∧ rd (fun b => w.heap.size ≤ b) w' [x] ys ∧ Below w.heap.size w w' := by
  obtain ⟨a, cap, rfl, hs⟩ := rd_slice_elim hv
  go_enter Try.func5, Try.ntmps5
  go_wp2_with fail
  refine (l30Three_any _ bs w hs.rd hl).mono ?_
  rintro e w1 ⟨v, u, x, os, xs, ys, rfl, r⟩
  go_wp2
  refine bodyPost_ret (results_tmp3 rfl _ _ _) rfl ?_
  exact ⟨v, u, x, os, xs, ys, rfl, r⟩
set_option maxHeartbeats 8000000 in
set_option maxRecDepth 100000 in
theorem lawFnMergeShow (v0 : Value) (bs : List UInt8) (w : World) (h0 : rd (fun b => b < w.heap.size) w [v0] bs) :
    Calls Try.prog 3 #[v0] w fun e w' => e = .returned (.bool true) ∧ Below w.heap.size w w' := by
  obtain ⟨a0, c0, rfl, hs0⟩ := rd_slice_elim h0
  have hle := hs0.le
  by_cases hbig : 1048576 < bs.length
  · go_enter Try.func3, Try.ntmps3
    go_wp2
    go_ret
    exact ⟨rfl, Below.refl _ _⟩
  go_enter Try.func3, Try.ntmps3
  go_wp2_with fail
  refine (drawMergeShow_any _ bs w h0 (by omega)).mono ?_
  rintro e w0 ⟨v, u, x, o, a, b, rfl, _, _, _, ho, ha, hb, HB⟩
  have ho := Rep.lt ho
  have ha := Rep.lt ha
  have hb := Rep.lt hb
  obtain ⟨L, hL⟩ : ∃ L, mShow o a b = L := ⟨_, rfl⟩
  obtain ⟨n, hn⟩ : ∃ n, mClash o a b = n := ⟨_, rfl⟩
  have IM := fun (q : World) (v' u' x' : Value) (h1 : rd (fun b => b < q.heap.size) q [v'] o) (h2 : rd (fun b => b < q.heap.size) q [u'] a) (h3 : rd (fun b => b < q.heap.size) q [x'] b) => implMergeShow v' u' x' o a b q h1 h2 h3
  have SM := fun (q : World) (v' u' x' : Value) (h1 : rd (fun b => b < q.heap.size) q [v'] o) (h2 : rd (fun b => b < q.heap.size) q [u'] a) (h3 : rd (fun b => b < q.heap.size) q [x'] b) => specMergeShow v' u' x' o a b q h1 h2 h3
  have IC := fun (q : World) (v' u' x' : Value) (h1 : rd (fun b => b < q.heap.size) q [v'] o) (h2 : rd (fun b => b < q.heap.size) q [u'] a) (h3 : rd (fun b => b < q.heap.size) q [x'] b) => implMergeClash v' u' x' o a b q h1 h2 h3
  rw [hL] at IM SM
  rw [hn] at IC
  have HL := Lib.hid hL
  have HN := Lib.hid hn
  clear h0 hs0 hle hbig hL hn
  obtain ⟨hoA, hoC, hoV, _⟩ := rd_slice_elim ho
  subst hoV
  obtain ⟨haA, haC, haV, _⟩ := rd_slice_elim ha
  subst haV
  obtain ⟨hbA, hbC, hbV, _⟩ := rd_slice_elim hb
  subst hbV
  go_wp2_with fail
  refine (IM _ _ _ _ ho ha hb).mono ?_
  rintro e w1 ⟨p, rfl, hP, hb1⟩
  have ho := Rep.lt (Rep.keep ho hb1)
  have ha := Rep.lt (Rep.keep ha hb1)
  have hb := Rep.lt (Rep.keep hb hb1)
  have HB := HB.trans (hb1.mono HB.size)
  have hP := Rep.lt hP.rd
  obtain ⟨hPA, hPC, hPV, _⟩ := rd_slice_elim hP
  subst hPV
  cases h3 : threeB o a b with
  | false =>
    have hn1 : n = -1 := by rw [← HN.out, mClash_bad h3]
    subst hn1
    clear h3
    go_wp2_with fail
    refine (SM _ _ _ _ ho ha hb).mono ?_
    rintro e w2 ⟨q, rfl, hQ, hb2⟩
    have ho := Rep.lt (Rep.keep ho hb2)
    have ha := Rep.lt (Rep.keep ha hb2)
    have hb := Rep.lt (Rep.keep hb hb2)
    have HB := HB.trans (hb2.mono HB.size)
    have hP := Rep.lt (Rep.keep hP hb2)
    have hQ := Rep.lt hQ.rd
    go_wp2_with fail
    refine (smTexts_c _ _ L L _ hP hQ (decide_eq_true rfl)).mono ?_
    rintro e w3 ⟨rfl, hb3⟩
    have ho := Rep.lt (Rep.keep ho hb3)
    have ha := Rep.lt (Rep.keep ha hb3)
    have hb := Rep.lt (Rep.keep hb hb3)
    have HB := HB.trans (hb3.mono HB.size)
    have hP := Rep.lt (Rep.keep hP hb3)
    have hQ := Rep.lt (Rep.keep hQ hb3)
    go_wp2_with fail
    refine (IC _ _ _ _ ho ha hb).mono ?_
    rintro e w4 ⟨rfl, hb4⟩
    have ho := Rep.lt (Rep.keep ho hb4)
    have ha := Rep.lt (Rep.keep ha hb4)
    have hb := Rep.lt (Rep.keep hb hb4)
    have HB := HB.trans (hb4.mono HB.size)
    have hP := Rep.lt (Rep.keep hP hb4)
    have hQ := Rep.lt (Rep.keep hQ hb4)
    go_wp2_with fail
    refine (SM _ _ _ _ ho ha hb).mono ?_
    rintro e w5 ⟨q2, rfl, hQ2, hb5⟩
    have ho := Rep.lt (Rep.keep ho hb5)
    have ha := Rep.lt (Rep.keep ha hb5)
    have hb := Rep.lt (Rep.keep hb hb5)
    have HB := HB.trans (hb5.mono HB.size)
    have hP := Rep.lt (Rep.keep hP hb5)
    have hQ2 := Rep.lt hQ2.rd
    go_wp2_with fail
    refine (smTexts_c _ _ L L _ hP hQ2 (decide_eq_true rfl)).mono ?_
    rintro e w6 ⟨rfl, hb6⟩
    have ho := Rep.lt (Rep.keep ho hb6)
    have ha := Rep.lt (Rep.keep ha hb6)
    have hb := Rep.lt (Rep.keep hb hb6)
    have HB := HB.trans (hb6.mono HB.size)
    have hP := Rep.lt (Rep.keep hP hb6)
    have hQ2 := Rep.lt (Rep.keep hQ2 hb6)
    go_wp2
    go_ret
    exact ⟨rfl, HB⟩
  | true =>
    obtain ⟨y, c, hx⟩ : ∃ y c, mText o a b = (y, c) := ⟨_, _, rfl⟩
    have hlaw := show_law h3 hx
    rw [HL.out] at hlaw
    have hcn : n = (clashN (mergeT o a b) : Int) := by rw [← HN.out, mClash_ok h3]
    obtain ⟨k, hk⟩ : ∃ k, k = clashN (mergeT o a b) := ⟨_, rfl⟩
    rw [← hk] at hlaw hcn
    subst hcn
    have hnn : decide ((k : Int) < 0) = false := decide_eq_false (by omega)
    have hLl : L.length ≤ 1000000 := by
      have h1 := (mOf_len o a b)
      have h2 := show_len (n := 0) (ps := mOf o a b) h1.2.2
      rw [← HL.out]
      show (showF (mOf o a b)).length ≤ _
      have := h1.1
      omega
    have IT := fun (q : World) (v' u' x' : Value) (h1 : rd (fun b => b < q.heap.size) q [v'] o) (h2 : rd (fun b => b < q.heap.size) q [u'] a) (h3 : rd (fun b => b < q.heap.size) q [x'] b) => implMergeText v' u' x' o a b q h1 h2 h3
    rw [hx] at IT
    obtain ⟨hl1, hl2⟩ := hlaw
    have HL1 := Lib.hid hl1
    have HL2 := Lib.hid hl2
    clear hk h3 hx hl1 hl2
    go_wp2_with fail
    refine (SM _ _ _ _ ho ha hb).mono ?_
    rintro e w7 ⟨q, rfl, hQ, hb7⟩
    have ho := Rep.lt (Rep.keep ho hb7)
    have ha := Rep.lt (Rep.keep ha hb7)
    have hb := Rep.lt (Rep.keep hb hb7)
    have HB := HB.trans (hb7.mono HB.size)
    have hP := Rep.lt (Rep.keep hP hb7)
    have hQ := Rep.lt hQ.rd
    go_wp2_with fail
    refine (smTexts_c _ _ L L _ hP hQ (decide_eq_true rfl)).mono ?_
    rintro e w8 ⟨rfl, hb8⟩
    have ho := Rep.lt (Rep.keep ho hb8)
    have ha := Rep.lt (Rep.keep ha hb8)
    have hb := Rep.lt (Rep.keep hb hb8)
    have HB := HB.trans (hb8.mono HB.size)
    have hP := Rep.lt (Rep.keep hP hb8)
    have hQ := Rep.lt (Rep.keep hQ hb8)
    clear hQ
    go_wp2_with fail
    refine (IC _ _ _ _ ho ha hb).mono ?_
    rintro e w9 ⟨rfl, hb9⟩
    have ho := Rep.lt (Rep.keep ho hb9)
    have ha := Rep.lt (Rep.keep ha hb9)
    have hb := Rep.lt (Rep.keep hb hb9)
    have HB := HB.trans (hb9.mono HB.size)
    have hP := Rep.lt (Rep.keep hP hb9)
    go_wp2_with fail
    refine (IC _ _ _ _ ho ha hb).mono ?_
    rintro e w10 ⟨rfl, hb10⟩
    have ho := Rep.lt (Rep.keep ho hb10)
    have ha := Rep.lt (Rep.keep ha hb10)
    have hb := Rep.lt (Rep.keep hb hb10)
    have HB := HB.trans (hb10.mono HB.size)
    have hP := Rep.lt (Rep.keep hP hb10)
    go_wp2_with fail
    refine (IT _ _ _ _ ho ha hb).mono ?_
    rintro e w11 ⟨r, rfl, hR, hb11⟩
    have ho := Rep.lt (Rep.keep ho hb11)
    have ha := Rep.lt (Rep.keep ha hb11)
    have hb := Rep.lt (Rep.keep hb hb11)
    have HB := HB.trans (hb11.mono HB.size)
    have hP := Rep.lt (Rep.keep hP hb11)
    have hR := Rep.lt hR.rd
    obtain ⟨hRA, hRC, hRV, _⟩ := rd_slice_elim hR
    subst hRV
    cases has : hasS ⟨#[60, 60, 60]⟩ a with
    | true =>
      go_wp2_with fail
      refine (smHas_is _ a ⟨#[60, 60, 60]⟩ _ ha has).mono ?_
      rintro e w12 ⟨rfl, hb12⟩
      have ho := Rep.lt (Rep.keep ho hb12)
      have ha := Rep.lt (Rep.keep ha hb12)
      have hb := Rep.lt (Rep.keep hb hb12)
      have HB := HB.trans (hb12.mono HB.size)
      have hP := Rep.lt (Rep.keep hP hb12)
      have hR := Rep.lt (Rep.keep hR hb12)
      cases c with
      | false =>
        go_wp2
        go_ret
        exact ⟨rfl, HB⟩
      | true =>
        have he : decide (L = y) = true := decide_eq_true (HL2.out rfl)
        go_wp2_with fail
        refine (smTexts_c _ _ L y _ hP hR he).mono ?_
        rintro e w13 ⟨rfl, hb13⟩
        have ho := Rep.lt (Rep.keep ho hb13)
        have ha := Rep.lt (Rep.keep ha hb13)
        have hb := Rep.lt (Rep.keep hb hb13)
        have HB := HB.trans (hb13.mono HB.size)
        have hP := Rep.lt (Rep.keep hP hb13)
        have hR := Rep.lt (Rep.keep hR hb13)
        go_wp2
        go_ret
        exact ⟨rfl, HB⟩
    | false =>
      rw [has] at HL1
      go_wp2_with fail
      refine (smHas_is _ a ⟨#[60, 60, 60]⟩ _ ha has).mono ?_
      rintro e w14 ⟨rfl, hb14⟩
      have ho := Rep.lt (Rep.keep ho hb14)
      have ha := Rep.lt (Rep.keep ha hb14)
      have hb := Rep.lt (Rep.keep hb hb14)
      have HB := HB.trans (hb14.mono HB.size)
      have hP := Rep.lt (Rep.keep hP hb14)
      have hR := Rep.lt (Rep.keep hR hb14)
      cases hbs : hasS ⟨#[60, 60, 60]⟩ b with
      | true =>
        go_wp2_with fail
        refine (smHas_is _ b ⟨#[60, 60, 60]⟩ _ hb hbs).mono ?_
        rintro e w15 ⟨rfl, hb15⟩
        have ho := Rep.lt (Rep.keep ho hb15)
        have ha := Rep.lt (Rep.keep ha hb15)
        have hb := Rep.lt (Rep.keep hb hb15)
        have HB := HB.trans (hb15.mono HB.size)
        have hP := Rep.lt (Rep.keep hP hb15)
        have hR := Rep.lt (Rep.keep hR hb15)
        cases c with
        | false =>
          go_wp2
          go_ret
          exact ⟨rfl, HB⟩
        | true =>
          have he : decide (L = y) = true := decide_eq_true (HL2.out rfl)
          go_wp2_with fail
          refine (smTexts_c _ _ L y _ hP hR he).mono ?_
          rintro e w16 ⟨rfl, hb16⟩
          have ho := Rep.lt (Rep.keep ho hb16)
          have ha := Rep.lt (Rep.keep ha hb16)
          have hb := Rep.lt (Rep.keep hb hb16)
          have HB := HB.trans (hb16.mono HB.size)
          have hP := Rep.lt (Rep.keep hP hb16)
          have hR := Rep.lt (Rep.keep hR hb16)
          go_wp2
          go_ret
          exact ⟨rfl, HB⟩
      | false =>
        rw [hbs] at HL1
        go_wp2_with fail
        refine (smHas_is _ b ⟨#[60, 60, 60]⟩ _ hb hbs).mono ?_
        rintro e w17 ⟨rfl, hb17⟩
        have ho := Rep.lt (Rep.keep ho hb17)
        have ha := Rep.lt (Rep.keep ha hb17)
        have hb := Rep.lt (Rep.keep hb hb17)
        have HB := HB.trans (hb17.mono HB.size)
        have hP := Rep.lt (Rep.keep hP hb17)
        have hR := Rep.lt (Rep.keep hR hb17)
        cases hos : hasS ⟨#[60, 60, 60]⟩ o with
        | true =>
          go_wp2_with fail
          refine (smHas_is _ o ⟨#[60, 60, 60]⟩ _ ho hos).mono ?_
          rintro e w18 ⟨rfl, hb18⟩
          have ho := Rep.lt (Rep.keep ho hb18)
          have ha := Rep.lt (Rep.keep ha hb18)
          have hb := Rep.lt (Rep.keep hb hb18)
          have HB := HB.trans (hb18.mono HB.size)
          have hP := Rep.lt (Rep.keep hP hb18)
          have hR := Rep.lt (Rep.keep hR hb18)
          cases c with
          | false =>
            go_wp2
            go_ret
            exact ⟨rfl, HB⟩
          | true =>
            have he : decide (L = y) = true := decide_eq_true (HL2.out rfl)
            go_wp2_with fail
            refine (smTexts_c _ _ L y _ hP hR he).mono ?_
            rintro e w19 ⟨rfl, hb19⟩
            have ho := Rep.lt (Rep.keep ho hb19)
            have ha := Rep.lt (Rep.keep ha hb19)
            have hb := Rep.lt (Rep.keep hb hb19)
            have HB := HB.trans (hb19.mono HB.size)
            have hP := Rep.lt (Rep.keep hP hb19)
            have hR := Rep.lt (Rep.keep hR hb19)
            go_wp2
            go_ret
            exact ⟨rfl, HB⟩
        | false =>
          rw [hos] at HL1
          go_wp2_with fail
          refine (smHas_is _ o ⟨#[60, 60, 60]⟩ _ ho hos).mono ?_
          rintro e w20 ⟨rfl, hb20⟩
          have ho := Rep.lt (Rep.keep ho hb20)
          have ha := Rep.lt (Rep.keep ha hb20)
          have hb := Rep.lt (Rep.keep hb hb20)
          have HB := HB.trans (hb20.mono HB.size)
          have hP := Rep.lt (Rep.keep hP hb20)
          have hR := Rep.lt (Rep.keep hR hb20)
          have hm : manyT ⟨#[60, 60, 60]⟩ L = k := HL1.out.resolve_left (by simp)
          have hkk : ((k : Int) == (k : Int)) = true := by simp
          go_wp2_with fail
          refine (smMany_is _ L ⟨#[60, 60, 60]⟩ _ hP hLl hm).mono ?_
          rintro e w21 ⟨rfl, hb21⟩
          have ho := Rep.lt (Rep.keep ho hb21)
          have ha := Rep.lt (Rep.keep ha hb21)
          have hb := Rep.lt (Rep.keep hb hb21)
          have HB := HB.trans (hb21.mono HB.size)
          have hP := Rep.lt (Rep.keep hP hb21)
          have hR := Rep.lt (Rep.keep hR hb21)
          cases c with
          | false =>
            go_wp2
            go_ret
            exact ⟨rfl, HB⟩
          | true =>
            have he : decide (L = y) = true := decide_eq_true (HL2.out rfl)
            go_wp2_with fail
            refine (smTexts_c _ _ L y _ hP hR he).mono ?_
            rintro e w22 ⟨rfl, hb22⟩
            have ho := Rep.lt (Rep.keep ho hb22)
            have ha := Rep.lt (Rep.keep ha hb22)
            have hb := Rep.lt (Rep.keep hb hb22)
            have HB := HB.trans (hb22.mono HB.size)
            have hP := Rep.lt (Rep.keep hP hb22)
            have hR := Rep.lt (Rep.keep hR hb22)
            go_wp2
            go_ret
            exact ⟨rfl, HB⟩
end Go.Proofs.Ytlpfoekbccbhlaa
