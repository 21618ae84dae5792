/-
  The walk of a law: FnRuleLost.
-/
import Derived.Test.YtfpneepnnoldeaaDoorDrawTL
import Derived.Test.YtfpneepnnoldeaaDoorWTreeG
import Derived.Test.YtfpneepnnoldeaaDoorWTSet
import Derived.Test.YtfpneepnnoldeaaDoorWLost
import Derived.Test.YtfpneepnnoldeaaDoorWLostS
import Derived.Test.YtfpneepnnoldeaaDoorSmL
import Derived.Test.YtfpneepnnoldeaaDoorPlRL
set_option linter.unusedVariables false
namespace Go.Proofs.YtfpneepnnoldeaaDoor
open Go.RowKit Go.Vc
open Go.Vc.Rep (rd)
open Go.Vc.Own (own)

set_option maxHeartbeats 8000000 in
set_option maxRecDepth 100000 in
theorem lawFnRuleLost (v0 : Value) (bs : List UInt8) (w : World) (h0 : rd (fun b => b < w.heap.size) w [v0] bs) (hM : ML w) :
    Calls Tryd.prog 10 #[v0] w fun e w' => e = .returned (.bool true) ∧ Below w.heap.size w w' := by
  obtain ⟨a0, c0, rfl, hs0⟩ := rd_slice_elim h0
  have hle := hs0.le
  by_cases hbig : 1048576 < bs.length
  · go_enter Tryd.func10, Tryd.ntmps10
    go_wp2
    go_ret
    exact ⟨rfl, Below.refl _ _⟩
  go_enter Tryd.func10, Tryd.ntmps10
  go_wp2_with fail
  refine (drawRuleLost_any _ bs w h0 (by omega)).mono ?_
  rintro e w0 ⟨v, t, rfl, hSm, ht, HB⟩
  have ht := Rep.lt ht
  have hM := hM.keep HB
  have hS := hSm.short
  obtain ⟨x, hx⟩ : ∃ x, ruleLost t = x := ⟨_, rfl⟩
  have hlx := ruleLost_len t
  have IT := fun (q : World) (v' : Value) (hv : rd (fun b => b < q.heap.size) q [v'] t) (hM : ML q) => implRuleLost v' t q hv hS hM
  have ST := fun (q : World) (v' : Value) (hv : rd (fun b => b < q.heap.size) q [v'] t) => specRuleLost v' t q hv
  rw [hx] at IT ST hlx
  have HX := Lib.hid hx
  clear h0 hs0 hle hbig hSm hx
  go_wp2_with fail
  refine (IT _ _ ht hM).mono ?_
  rintro e w1 ⟨p, rfl, hP, hb1⟩
  have ht := Rep.lt (Rep.keep ht hb1)
  have hM := ML.keep hM hb1
  have HB := HB.trans (hb1.mono HB.size)
  have hP := Rep.lt hP.rd
  go_wp2_with fail
  refine (ST _ _ ht).mono ?_
  rintro e w2 ⟨q, rfl, hQ, hb2⟩
  have ht := Rep.lt (Rep.keep ht hb2)
  have hM := ML.keep hM hb2
  have HB := HB.trans (hb2.mono HB.size)
  have hP := Rep.lt (Rep.keep hP hb2)
  have hQ := Rep.lt hQ.rd
  go_wp2_with fail
  refine (smLost_same _ _ x _ hP hQ).mono ?_
  rintro e w3 ⟨rfl, hb3⟩
  have ht := Rep.lt (Rep.keep ht hb3)
  have hM := ML.keep hM hb3
  have HB := HB.trans (hb3.mono HB.size)
  have hP := Rep.lt (Rep.keep hP hb3)
  have hQ := Rep.lt (Rep.keep hQ hb3)
  cases hT : treeB t with
  | false =>
    go_wp2_with fail
    refine (treeOk_is _ t _ ht hS hM hT).mono ?_
    rintro e w4 ⟨rfl, hb4⟩
    have ht := Rep.lt (Rep.keep ht hb4)
    have hM := ML.keep hM hb4
    have HB := HB.trans (hb4.mono HB.size)
    have hP := Rep.lt (Rep.keep hP hb4)
    go_wp2_with fail
    refine (ST _ _ ht).mono ?_
    rintro e w5 ⟨q2, rfl, hQ2, hb5⟩
    have ht := Rep.lt (Rep.keep ht hb5)
    have hM := ML.keep hM hb5
    have HB := HB.trans (hb5.mono HB.size)
    have hP := Rep.lt (Rep.keep hP hb5)
    have hQ2 := Rep.lt hQ2.rd
    go_wp2_with fail
    refine (smLost_same _ _ x _ hP hQ2).mono ?_
    rintro e w6 ⟨rfl, hb6⟩
    have ht := Rep.lt (Rep.keep ht hb6)
    have hM := ML.keep hM hb6
    have HB := HB.trans (hb6.mono HB.size)
    have hP := Rep.lt (Rep.keep hP hb6)
    have hQ2 := Rep.lt (Rep.keep hQ2 hb6)
    go_wp2
    go_ret
    exact ⟨rfl, HB⟩
  | true =>
    go_wp2_with fail
    refine (treeOk_is _ t _ ht hS hM hT).mono ?_
    rintro e w7 ⟨rfl, hb7⟩
    have ht := Rep.lt (Rep.keep ht hb7)
    have hM := ML.keep hM hb7
    have HB := HB.trans (hb7.mono HB.size)
    have hP := Rep.lt (Rep.keep hP hb7)
    have HT := Lib.hid hT
    have HAT := Lib.hid (fun (i : Nat) (hi : i < x.length) => ruleLost_at hT HX.out hi)
    obtain ⟨ax, cx, hxv, hxs⟩ := rd_slice_elim hP
    subst hxv
    have hsz := HB.size
    clear hT IT ST
    go_wp2
    go_loopw [5] (fun i wr => (∃ k : Nat, k ≤ x.length ∧ i = .int .i64 k) ∧ Below w7.heap.size w7 wr) (fun i _ => x.length - (intOf i).toNat)
    case atStart => exact ⟨⟨0, by omega, rfl⟩, Below.refl _ _⟩
    case round =>
      obtain ⟨⟨k, hk, rfl⟩, hbr⟩ := hrel
      obtain ⟨wx, rfl⟩ : ∃ wx : World, wx = wr := ⟨_, rfl⟩
      have hsr := hbr.size
      have hM := hM.keep hbr
      have ht := Rep.lt (Rep.keep ht hbr)
      by_cases hlt : k < x.length
      · obtain ⟨g, off, rfl, hc0, hc1, hc2, hz0, hz1, hz2⟩ := (hxs.keep hbr).lost hlt
        obtain ⟨tx, n, hn, hg1, hline, hsee, hg2, hr12, f, hf, hfp, hft⟩ := HAT.out k hlt
        obtain ⟨q, hq⟩ : ∃ q, q = x[k] := ⟨_, rfl⟩
        rw [← hq] at hc0 hc1 hc2 hg1 hline hsee hg2 hr12 hfp
        rw [hline] at hc1
        have hsq : ShortS q.path := by rw [← hfp]; exact hS f hf
        have hsq2 : ShortS q.ref := short_of (by omega)
        have hzq2 : q.ref.size ≤ maxLen := by unfold maxLen; omega
        have hno : ¬ 9223372036854775807 < 4 + q.ref.size := by omega
        have HSE := Lib.hid hsee
        clear hq hline hsee hf hfp hft hz0 hz1 hz2
        go_wp2_with fail
        refine (implTreeGet _ t q.path _ ht hS hM hg1).mono ?_
        rintro e w1 ⟨g1, rfl, hG1, hb1⟩
        have hbr := hbr.trans (hb1.mono hsr)
        have hsr := hbr.size
        have hc0 := keepc hc0 hb1
        have hc1 := keepc hc1 hb1
        have hc2 := keepc hc2 hb1
        have ht := Rep.lt (Rep.keep ht hb1)
        have hM := hM.keep hb1
        have hG1 := Rep.lt hG1.rd
        go_wp2_with fail
        refine (implTreeGet _ t q.ref _ ht hS hM hg2).mono ?_
        rintro e w2 ⟨g2, rfl, hG2, hb2⟩
        have hbr := hbr.trans (hb2.mono hsr)
        have hsr := hbr.size
        have hc0 := keepc hc0 hb2
        have hc1 := keepc hc1 hb2
        have hc2 := keepc hc2 hb2
        have ht := Rep.lt (Rep.keep ht hb2)
        have hM := hM.keep hb2
        have hG1 := Rep.lt (Rep.keep hG1 hb2)
        obtain ⟨aG, cG, hGv, hGs⟩ := rd_slice_elim hG1
        subst hGv
        obtain ⟨aH, cH, hHv, _⟩ := hG2.shape
        subst hHv
        obtain ⟨gg, goff, hGe, hcg, _⟩ := hGs.str (show n < ((some tx : Option (List ByteArray)).getD []).length from hn)
        subst hGe
        have hcg : w2.cell? ⟨gg, goff + n, none⟩ = some (.string (⟨#[115, 101, 101, 32]⟩ ++ q.ref)) := by rw [hcg]; exact congrArg _ (congrArg _ HSE.out)
        have hn9 : n < ((some tx : Option (List ByteArray)).getD []).length := hn
        have e1 := BW.cell hc1
        have e2 := BW.cell hc2
        have e3 := BW.cell hcg
        clear hG2 hG1 hGs HSE
        go_wp2
        refine wp_region_bw (by kernel_rfl) (by kernel_rfl) ?_
        repeat (go_big_quiet_step (fail))
        refine wpQuiet_nil ?_
        rintro w1 ⟨⟨_, hbw⟩, rfl⟩
        obtain ⟨wx, rfl⟩ : ∃ wx : World, wx = w1 := ⟨_, rfl⟩
        have hbr := hbr.trans (hbw.mono hsr)
        have hsr := hbr.size
        have hc0 := keepc hc0 hbw
        have hc2 := keepc hc2 hbw
        have ht := Rep.lt (Rep.keep ht hbw)
        have hM := hM.keep hbw
        clear e1 e2 e3 hbw hcg hc1
        obtain ⟨x2, hx2⟩ : ∃ x2, treeSet t ⟨q.ref, []⟩ = x2 := ⟨_, rfl⟩
        obtain ⟨b, hb⟩ : ∃ b, setB t ⟨q.ref, []⟩ = b := ⟨_, rfl⟩
        obtain ⟨m, hm⟩ : ∃ m, ruleLost x2 = m := ⟨_, rfl⟩
        have IT2 := fun (v' : Value) (hv : rd (fun b => b < wx.heap.size) wx [v'] t) => implTreeSet (T := fun _ => False) v' t q.ref (.slice none 0 0) [] wx hv hS hM hzq2 hsq2 (rd_slice_nil _ _) (by simp)
        rw [hx2, hb] at IT2
        have hS2 : ∀ f, f ∈ x2 → ShortS f.path := fun f hf => by
          rw [← hx2] at hf
          rcases treeSet_mem hf with rfl | hf
          · exact hsq2
          · exact hS f hf
        have HNE : Hid (b = true → ∀ (j : Nat) (hj : j < m.length), ¬ m[j].ref = q.ref) := fun hbt j hj => ruleLost_set HT.out (hb.trans hbt) hx2 hm hj
        have IR := fun (q : World) (v' : Value) (hv : rd (fun b => b < q.heap.size) q [v'] x2) (hM : ML q) => implRuleLost v' x2 q hv hS2 hM
        have hlm := ruleLost_len x2
        rw [hm] at IR hlm
        clear hx2 hb hm
        go_wp2_with fail
        refine (IT2 _ ht).mono ?_
        rintro e w3 ⟨y, rfl, hY, hb3⟩
        have hbr := hbr.trans (hb3.mono hsr)
        have hsr := hbr.size
        have hc2 := keepc hc2 hb3
        have hM := hM.keep hb3
        have hY := Rep.lt hY.rd
        clear IT2
        go_wp2_with fail
        refine (IR _ _ hY hM).mono ?_
        rintro e w4 ⟨z, rfl, hZ, hb4⟩
        have hbr := hbr.trans (hb4.mono hsr)
        have hsr := hbr.size
        have hc2 := keepc hc2 hb4
        obtain ⟨az, cz, hzv, hzs⟩ := rd_slice_elim (Rep.lt hZ.rd)
        subst hzv
        clear IR hY hZ hb3 hb4
        go_wp2
        go_loopw [13] (fun i wr => (∃ j : Nat, j ≤ m.length ∧ i = .int .i64 j) ∧ Below w4.heap.size w4 wr) (fun i _ => m.length - (intOf i).toNat)
        case atStart => exact ⟨⟨0, by omega, rfl⟩, Below.refl _ _⟩
        case round =>
          obtain ⟨⟨j, hj, rfl⟩, hbq⟩ := hrel
          by_cases hjl : j < m.length
          · cases b with
            | false =>
              go_wp2
              go_roundw
              case rel => exact ⟨⟨k + 1, by omega, by go_num⟩, hbr.trans (hbq.mono hsr)⟩
              case measure => simp [intOf] <;> omega
            | true =>
              obtain ⟨g9, off9, rfl, _, _, hd2, _, _, _⟩ := (hzs.keep hbq).lost hjl
              have hne := HNE.out rfl j hjl
              obtain ⟨u, hu⟩ : ∃ u, u = m[j] := ⟨_, rfl⟩
              rw [← hu] at hd2 hne
              have hd : decide (u.ref = q.ref) = false := decide_eq_false hne
              have hc2 := BW.cell (keepc hc2 hbq)
              have hd2 := BW.cell hd2
              clear hu hne
              go_wp2
              refine wp_region_bw (by kernel_rfl) (by kernel_rfl) ?_
              repeat (go_big_quiet_step (fail))
              refine wpQuiet_nil ?_
              rintro w1 ⟨⟨_, hbw⟩, rfl⟩
              go_wp2
              go_roundw
              case rel => exact ⟨⟨j + 1, by omega, by go_num⟩, hbq.trans (hbw.mono hbq.size)⟩
              case measure => simp [intOf] <;> omega
          · go_wp2
            go_roundw
            case rel => exact ⟨⟨k + 1, by omega, by go_num⟩, hbr.trans (hbq.mono hsr)⟩
            case measure => simp [intOf] <;> omega
      · go_wp2
        go_ret
        exact ⟨rfl, HB.trans (hbr.mono hsz)⟩
end Go.Proofs.YtfpneepnnoldeaaDoor
