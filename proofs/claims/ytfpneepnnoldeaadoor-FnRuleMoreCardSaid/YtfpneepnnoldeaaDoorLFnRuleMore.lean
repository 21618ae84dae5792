/-
  The walk of a law: FnRuleMore.
-/
import Derived.Test.YtfpneepnnoldeaaDoorDrawC
import Derived.Test.YtfpneepnnoldeaaDoorWMore
import Derived.Test.YtfpneepnnoldeaaDoorWMoreS
import Derived.Test.YtfpneepnnoldeaaDoorWLost
import Derived.Test.YtfpneepnnoldeaaDoorVQ
set_option linter.unusedVariables false
namespace Go.Proofs.YtfpneepnnoldeaaDoor
open Go.RowKit Go.Vc
open Go.Vc.Rep (rd)
open Go.Vc.Own (own)

set_option maxHeartbeats 8000000 in
set_option maxRecDepth 100000 in
theorem lawFnRuleMore (v0 : Value) (bs : List UInt8) (w : World) (h0 : rd (fun b => b < w.heap.size) w [v0] bs) (hM : ML w) :
    Calls Tryd.prog 11 #[v0] w fun e w' => e = .returned (.bool true) ∧ Below w.heap.size w w' := by
  obtain ⟨a0, c0, rfl, hs0⟩ := rd_slice_elim h0
  have hle := hs0.le
  by_cases hbig : 1048576 < bs.length
  · go_enter Tryd.func11, Tryd.ntmps11
    go_wp2
    go_ret
    exact ⟨rfl, Below.refl _ _⟩
  go_enter Tryd.func11, Tryd.ntmps11
  go_wp2_with fail
  refine (drawRuleMore_any _ bs w h0 (by omega)).mono ?_
  rintro e w0 ⟨v, u, a, b, rfl, hSa9, hSb9, ha, hb, HB⟩
  have ha := Rep.lt ha
  have hb := Rep.lt hb
  obtain ⟨aa, ca, hva, _⟩ := rd_slice_elim ha
  subst hva
  obtain ⟨ab, cb, hvb, _⟩ := rd_slice_elim hb
  subst hvb
  have hM := hM.keep HB
  have hSa : ∀ f, f ∈ a → ShortS f.path := fun f hf => short_of (by have := (hSa9.2 f hf).1; omega)
  have hSb : ∀ f, f ∈ b → ShortS f.path := fun f hf => short_of (by have := (hSb9.2 f hf).1; omega)
  obtain ⟨x, hx⟩ : ∃ x, ruleMore a b = x := ⟨_, rfl⟩
  have hlx := ruleMore_len a b
  have IT := fun (q : World) (v' u' : Value) (hv : rd (fun b => b < q.heap.size) q [v'] a) (hu : rd (fun b => b < q.heap.size) q [u'] b) (hM : ML q) => implRuleMore v' a u' b q hv hu hSa hSb hM
  have ST := fun (q : World) (v' u' : Value) (hv : rd (fun b => b < q.heap.size) q [v'] a) (hu : rd (fun b => b < q.heap.size) q [u'] b) => specRuleMore v' a u' b q hv hu
  rw [hx] at IT ST hlx
  have HX := Lib.hid hx
  clear h0 hs0 hle hbig hSa9 hSb9 hx
  go_wp2_with fail
  refine (IT _ _ _ ha hb hM).mono ?_
  rintro e w1 ⟨p, rfl, hP, hb1⟩
  have ha := Rep.lt (Rep.keep ha hb1)
  have hb := Rep.lt (Rep.keep hb hb1)
  have hM := ML.keep hM hb1
  have HB := HB.trans (hb1.mono HB.size)
  have hP := Rep.lt hP.rd
  obtain ⟨hPA, hPC, hPV, _⟩ := rd_slice_elim hP
  subst hPV
  go_wp2_with fail
  refine (ST _ _ _ ha hb).mono ?_
  rintro e w2 ⟨q, rfl, hQ, hb2⟩
  have ha := Rep.lt (Rep.keep ha hb2)
  have hb := Rep.lt (Rep.keep hb hb2)
  have hM := ML.keep hM hb2
  have HB := HB.trans (hb2.mono HB.size)
  have hP := Rep.lt (Rep.keep hP hb2)
  have hQ := Rep.lt hQ.rd
  go_wp2_with fail
  refine (smLost_same _ _ x _ hP hQ).mono ?_
  rintro e w3 ⟨rfl, hb3⟩
  have ha := Rep.lt (Rep.keep ha hb3)
  have hb := Rep.lt (Rep.keep hb hb3)
  have hM := ML.keep hM hb3
  have HB := HB.trans (hb3.mono HB.size)
  have hP := Rep.lt (Rep.keep hP hb3)
  have hQ := Rep.lt (Rep.keep hQ hb3)
  cases hTa : treeB a with
  | false =>
    go_wp2_with fail
    refine (treeOk_is _ a _ ha hSa hM hTa).mono ?_
    rintro e w4 ⟨rfl, hb4⟩
    have ha := Rep.lt (Rep.keep ha hb4)
    have hb := Rep.lt (Rep.keep hb hb4)
    have hM := ML.keep hM hb4
    have HB := HB.trans (hb4.mono HB.size)
    have hP := Rep.lt (Rep.keep hP hb4)
    go_wp2_with fail
    refine (ST _ _ _ ha hb).mono ?_
    rintro e w5 ⟨q2, rfl, hQ2, hb5⟩
    have ha := Rep.lt (Rep.keep ha hb5)
    have hb := Rep.lt (Rep.keep hb hb5)
    have hM := ML.keep hM hb5
    have HB := HB.trans (hb5.mono HB.size)
    have hP := Rep.lt (Rep.keep hP hb5)
    have hQ2 := Rep.lt hQ2.rd
    go_wp2_with fail
    refine (smLost_same _ _ x _ hP hQ2).mono ?_
    rintro e w6 ⟨rfl, hb6⟩
    have ha := Rep.lt (Rep.keep ha hb6)
    have hb := Rep.lt (Rep.keep hb hb6)
    have hM := ML.keep hM hb6
    have HB := HB.trans (hb6.mono HB.size)
    have hP := Rep.lt (Rep.keep hP hb6)
    have hQ2 := Rep.lt (Rep.keep hQ2 hb6)
    go_wp2
    go_ret
    exact ⟨rfl, HB⟩
  | true =>
    go_wp2_with fail
    refine (treeOk_is _ a _ ha hSa hM hTa).mono ?_
    rintro e w7 ⟨rfl, hb7⟩
    have ha := Rep.lt (Rep.keep ha hb7)
    have hb := Rep.lt (Rep.keep hb hb7)
    have hM := ML.keep hM hb7
    have HB := HB.trans (hb7.mono HB.size)
    have hP := Rep.lt (Rep.keep hP hb7)
    cases hTb : treeB b with
    | false =>
      go_wp2_with fail
      refine (treeOk_is _ b _ hb hSb hM hTb).mono ?_
      rintro e w8 ⟨rfl, hb8⟩
      have ha := Rep.lt (Rep.keep ha hb8)
      have hb := Rep.lt (Rep.keep hb hb8)
      have hM := ML.keep hM hb8
      have HB := HB.trans (hb8.mono HB.size)
      have hP := Rep.lt (Rep.keep hP hb8)
      go_wp2_with fail
      refine (ST _ _ _ ha hb).mono ?_
      rintro e w9 ⟨q2, rfl, hQ2, hb9⟩
      have ha := Rep.lt (Rep.keep ha hb9)
      have hb := Rep.lt (Rep.keep hb hb9)
      have hM := ML.keep hM hb9
      have HB := HB.trans (hb9.mono HB.size)
      have hP := Rep.lt (Rep.keep hP hb9)
      have hQ2 := Rep.lt hQ2.rd
      go_wp2_with fail
      refine (smLost_same _ _ x _ hP hQ2).mono ?_
      rintro e w10 ⟨rfl, hb10⟩
      have ha := Rep.lt (Rep.keep ha hb10)
      have hb := Rep.lt (Rep.keep hb hb10)
      have hM := ML.keep hM hb10
      have HB := HB.trans (hb10.mono HB.size)
      have hP := Rep.lt (Rep.keep hP hb10)
      have hQ2 := Rep.lt (Rep.keep hQ2 hb10)
      go_wp2
      go_ret
      exact ⟨rfl, HB⟩
    | true =>
      go_wp2_with fail
      refine (treeOk_is _ b _ hb hSb hM hTb).mono ?_
      rintro e w11 ⟨rfl, hb11⟩
      have ha := Rep.lt (Rep.keep ha hb11)
      have hb := Rep.lt (Rep.keep hb hb11)
      have hM := ML.keep hM hb11
      have HB := HB.trans (hb11.mono HB.size)
      have hP := Rep.lt (Rep.keep hP hb11)
      obtain ⟨y, hy⟩ : ∃ y, ruleLost b = y := ⟨_, rfl⟩
      have hly := ruleLost_len b
      have IL := fun (q : World) (v' : Value) (hv : rd (fun b => b < q.heap.size) q [v'] b) (hM : ML q) => implRuleLost v' b q hv hSb hM
      have IS := fun (q : World) (v' u' : Value) (hv : rd (fun b => b < q.heap.size) q [v'] a) (hu : rd (fun b => b < q.heap.size) q [u'] a) (hM : ML q) => implRuleMore v' a u' a q hv hu hSa hSa hM
      have IN := fun (q : World) (u' : Value) (hu : rd (fun b => b < q.heap.size) q [u'] b) (hM : ML q) => implRuleMore (S := fun _ => False) (.slice none 0 0) [] u' b q (rd_slice_nil _ _) hu (fun f hf => by cases hf) hSb hM
      rw [ruleMore_nil hTb] at IN
      rw [ruleMore_self hTa] at IS
      rw [hy] at IL IN hly
      have HSUB : Hid (∀ (i : Nat) (hi : i < x.length), x[i] ∈ y) := fun i hi => by rw [← hy]; exact ruleMore_sub hTb (by rw [HX.out]; exact List.getElem_mem hi)
      clear hy hTa hTb IT ST
      go_wp2_with fail
      refine (IL _ _ hb hM).mono ?_
      rintro e w12 ⟨r, rfl, hR, hb12⟩
      have ha := Rep.lt (Rep.keep ha hb12)
      have hb := Rep.lt (Rep.keep hb hb12)
      have hM := ML.keep hM hb12
      have HB := HB.trans (hb12.mono HB.size)
      have hP := Rep.lt (Rep.keep hP hb12)
      have hR := Rep.lt hR.rd
      obtain ⟨hRA, hRC, hRV, _⟩ := rd_slice_elim hR
      subst hRV
      have hxs := (rd_slice_of hP).2
      have hys := (rd_slice_of hR).2
      have hsz := HB.size
      clear IL
      go_wp2
      go_loopw [7] (fun i wr => (∃ k : Nat, k ≤ x.length ∧ i = .int .i64 k) ∧ Below w12.heap.size w12 wr) (fun i _ => x.length - (intOf i).toNat)
      case atStart => exact ⟨⟨0, by omega, rfl⟩, Below.refl _ _⟩
      case round =>
        obtain ⟨⟨k, hk, rfl⟩, hbr⟩ := hrel
        obtain ⟨wx, hwx⟩ : ∃ wx : World, wx = wr := ⟨_, rfl⟩
        subst hwx
        have hsr := hbr.size
        by_cases hlt : k < x.length
        · obtain ⟨f, hf⟩ : ∃ f, f = x[k] := ⟨_, rfl⟩
          have hin := HSUB.out k hlt
          rw [← hf] at hin
          have HIN := Lib.hid hin
          have HF := Lib.hid hf
          clear hf hin
          have H0 : Hid (y.any (fun z => decide (z = f)) = (false || (y.drop 0).any fun z => decide (z = f))) := rfl
          go_wp2
          go_loopw [8, 9] (fun is i wr => (∃ (j : Nat) (c : Bool), j ≤ y.length ∧ i = .int .i64 j ∧ is = .bool c ∧ Hid (y.any (fun z => decide (z = f)) = (c || (y.drop j).any fun z => decide (z = f)))) ∧ Below wx.heap.size wx wr) (fun _ i _ => y.length - (intOf i).toNat)
          case atStart => exact ⟨⟨0, false, by omega, rfl, rfl, H0.out⟩, Below.refl _ _⟩
          case round =>
            clear H0
            obtain ⟨⟨j, c, hj, rfl, rfl, HA⟩, hbq⟩ := hrel
            by_cases hjl : j < y.length
            · cases c with
              | true =>
                have HN := Lib.hid (anyo_yes HA.out)
                go_wp2
                refine wp_region_bw (by kernel_rfl) (by kernel_rfl) ?_
                repeat (go_big_quiet_step (fail))
                refine wpQuiet_nil ?_
                rintro w1 ⟨⟨_, hbw⟩, rfl⟩
                go_wp2
                go_roundw
                case rel => exact ⟨⟨j + 1, true, by omega, by go_num, rfl, HN.out⟩, hbq.trans (hbw.mono hbq.size)⟩
                case measure => simp [intOf] <;> omega
              | false =>
                obtain ⟨g1, o1, he1, c10, c11, c12, _, _, _⟩ := (hxs.keep (hbr.trans (hbq.mono hsr))).lost hlt
                obtain ⟨g2, o2, he2, c20, c21, c22, _, _, _⟩ := (hys.keep (hbr.trans (hbq.mono hsr))).lost hjl
                have HYY := fun hp => anyo_hit (P := fun z => decide (z = f)) (xs := y) HA.out hjl hp
                have HNN := fun hp => anyo_next (P := fun z => decide (z = f)) (xs := y) HA.out hjl hp
                obtain ⟨d, hd⟩ : ∃ d, d = y[j] := ⟨_, rfl⟩
                rw [← HF.out] at c10 c11 c12
                rw [← hd] at c20 c21 c22 HYY HNN
                have HY := Lib.hid HYY
                have HN := Lib.hid HNN
                subst he1
                cases he2
                clear hd HYY HNN
                by_cases heq : d = f
                · have HN2 := Lib.hid (HY.out (decide_eq_true heq))
                  subst heq
                  have c10 := BW.cell c10
                  have c11 := BW.cell c11
                  have c12 := BW.cell c12
                  have c20 := BW.cell c20
                  have c21 := BW.cell c21
                  have c22 := BW.cell c22
                  go_wp2
                  refine wp_region_bw (by kernel_rfl) (by kernel_rfl) ?_
                  repeat (go_big_quiet_step (fail))
                  refine wpQuiet_nil ?_
                  rintro w1 ⟨⟨_, hbw⟩, rfl⟩
                  go_wp2
                  go_roundw
                  case rel => exact ⟨⟨j + 1, true, by omega, by go_num, rfl, HN2.out⟩, hbq.trans (hbw.mono hbq.size)⟩
                  case measure => simp [intOf] <;> omega
                · have hne := heq
                  by_cases e1 : d.path = f.path
                  · rw [e1] at c20
                    by_cases e2 : d.line = f.line
                    · rw [e2] at c21
                      have e3 : ¬ d.ref = f.ref := fun e3 => hne ((eq_lost d f).2 ⟨e1, e2, e3⟩)
                      have d3 : decide (d.ref = f.ref) = false := decide_eq_false e3
                      clear e1 e2 e3 heq
                      have HN2 := Lib.hid (HN.out (decide_eq_false hne))
                      have c10 := BW.cell c10
                      have c11 := BW.cell c11
                      have c12 := BW.cell c12
                      have c20 := BW.cell c20
                      have c21 := BW.cell c21
                      have c22 := BW.cell c22
                      clear hne
                      go_wp2
                      refine wp_region_bw (by kernel_rfl) (by kernel_rfl) ?_
                      repeat (go_big_quiet_step (fail))
                      refine wpQuiet_nil ?_
                      rintro w1 ⟨⟨_, hbw⟩, rfl⟩
                      go_wp2
                      go_roundw
                      case rel => exact ⟨⟨j + 1, false, by omega, by go_num, rfl, HN2.out⟩, hbq.trans (hbw.mono hbq.size)⟩
                      case measure => simp [intOf] <;> omega
                    · have d2 : (d.line == f.line) = false := by rw [beq_eq_false_iff_ne]; exact e2
                      have d2' : decide (d.line = f.line) = false := decide_eq_false e2
                      clear e1 e2 heq
                      have HN2 := Lib.hid (HN.out (decide_eq_false hne))
                      have c10 := BW.cell c10
                      have c11 := BW.cell c11
                      have c12 := BW.cell c12
                      have c20 := BW.cell c20
                      have c21 := BW.cell c21
                      have c22 := BW.cell c22
                      clear hne
                      go_wp2
                      refine wp_region_bw (by kernel_rfl) (by kernel_rfl) ?_
                      repeat (go_big_quiet_step (fail))
                      refine wpQuiet_nil ?_
                      rintro w1 ⟨⟨_, hbw⟩, rfl⟩
                      go_wp2
                      go_roundw
                      case rel => exact ⟨⟨j + 1, false, by omega, by go_num, rfl, HN2.out⟩, hbq.trans (hbw.mono hbq.size)⟩
                      case measure => simp [intOf] <;> omega
                  · have d1 : decide (d.path = f.path) = false := decide_eq_false e1
                    clear e1 heq
                    have HN2 := Lib.hid (HN.out (decide_eq_false hne))
                    have c10 := BW.cell c10
                    have c11 := BW.cell c11
                    have c12 := BW.cell c12
                    have c20 := BW.cell c20
                    have c21 := BW.cell c21
                    have c22 := BW.cell c22
                    clear hne
                    go_wp2
                    refine wp_region_bw (by kernel_rfl) (by kernel_rfl) ?_
                    repeat (go_big_quiet_step (fail))
                    refine wpQuiet_nil ?_
                    rintro w1 ⟨⟨_, hbw⟩, rfl⟩
                    go_wp2
                    go_roundw
                    case rel => exact ⟨⟨j + 1, false, by omega, by go_num, rfl, HN2.out⟩, hbq.trans (hbw.mono hbq.size)⟩
                    case measure => simp [intOf] <;> omega
            · have hB : y.any (fun z => decide (z = f)) = c := anyo_end HA.out hjl
              have hC : c = true := by
                rw [← hB, List.any_eq_true]
                exact ⟨f, HIN.out, decide_eq_true rfl⟩
              clear hB HA
              subst hC
              go_wp2
              go_roundw
              case rel => exact ⟨⟨k + 1, by omega, by go_num⟩, hbr.trans (hbq.mono hsr)⟩
              case measure => simp [intOf] <;> omega
        · have HB := HB.trans (hbr.mono hsz)
          have ha := Rep.lt (Rep.keep ha hbr)
          have hb := Rep.lt (Rep.keep hb hbr)
          have hR := Rep.lt (Rep.keep hR hbr)
          have hM := hM.keep hbr
          go_wp2_with fail
          refine (IS _ _ _ ha ha hM).mono ?_
          rintro e w91 ⟨p9, rfl, hP9, hb9⟩
          obtain ⟨a9, c9, hv9, _⟩ := hP9.shape
          subst hv9
          have HB := HB.trans (hb9.mono HB.size)
          have hb := Rep.lt (Rep.keep hb hb9)
          have hR := Rep.lt (Rep.keep hR hb9)
          have hM := hM.keep hb9
          go_wp2_with fail
          refine (IN _ _ hb hM).mono ?_
          rintro e w92 ⟨p8, rfl, hP8, hb8⟩
          have HB := HB.trans (hb8.mono HB.size)
          have hR := Rep.lt (Rep.keep hR hb8)
          go_wp2_with fail
          refine (smLost_same _ _ y _ hP8.rd hR).mono ?_
          rintro e w93 ⟨rfl, hb7⟩
          have HB := HB.trans (hb7.mono HB.size)
          go_wp2
          go_ret
          exact ⟨rfl, HB⟩
end Go.Proofs.YtfpneepnnoldeaaDoor
