/-
  The walk of a law: FnRuleMove.
-/
import Derived.Test.YtegknjcifmenpaaDoorVDT
import Derived.Test.YtegknjcifmenpaaDoorWRMv
import Derived.Test.YtegknjcifmenpaaDoorWRMvS
import Derived.Test.YtegknjcifmenpaaDoorWTreeG
import Derived.Test.YtegknjcifmenpaaDoorVSM
import Derived.Test.YtegknjcifmenpaaDoorWLost
import Derived.Test.YtegknjcifmenpaaDoorWUses
import Derived.Test.YtegknjcifmenpaaDoorPlRN
set_option linter.unusedVariables false
namespace Go.Proofs.YtegknjcifmenpaaDoor
open Go.RowKit Go.Vc
open Go.Vc.Rep (rd)
open Go.Vc.Own (own)

set_option maxHeartbeats 8000000 in
set_option maxRecDepth 100000 in
theorem lawFnRuleMove (v0 : Value) (bs : List UInt8) (w : World) (h0 : rd (fun b => b < w.heap.size) w [v0] bs) (hM : ML w) :
    Calls Tryd.prog 4 #[v0] w fun e w' => e = .returned (.bool true) ∧ Below w.heap.size w w' := by
  obtain ⟨a0, c0, rfl, hs0⟩ := rd_slice_elim h0
  have hle := hs0.le
  by_cases hbig : 1048576 < bs.length
  · go_enter Tryd.func4, Tryd.ntmps4
    go_wp2
    go_ret
    exact ⟨rfl, Below.refl _ _⟩
  go_enter Tryd.func4, Tryd.ntmps4
  go_wp2_with fail
  refine (drawRuleMove_any _ bs w h0 (by omega)).mono ?_
  rintro e w0 ⟨v, t, path, dst, rfl, hSm, hz, hzd, ht, HB⟩
  have ht := Rep.lt ht
  have hM := hM.keep HB
  have hS := hSm.short
  have hp1 : path.size ≤ 1048576 := by omega
  have hp2 : path.size ≤ maxLen := by unfold maxLen; omega
  have hZ : ∀ f, f ∈ t → f.path.size ≤ 1048576 := fun f hf => by have := (hSm.2 f hf).1; omega
  have h100 : ∀ f, f ∈ t → f.path.size ≤ 100 := fun f hf => (hSm.2 f hf).1
  have hd1 : dst.size ≤ 1048576 := by omega
  obtain ⟨x, hx⟩ : ∃ x, ruleMove t path dst = x := ⟨_, rfl⟩
  obtain ⟨b, hb⟩ : ∃ b, ruleMoveB t path dst = b := ⟨_, rfl⟩
  have HX := Lib.hid hx
  have HBB := Lib.hid hb
  clear h0 hs0 hle hbig hSm hx hb
  obtain ⟨htA, htC, htV, _⟩ := rd_slice_elim ht
  subst htV
  go_wp2_with fail
  refine (implRuleMove _ t path dst _ ht hp1 hd1 hZ hM HBB.out HX.out).mono ?_
  rintro e w1 ⟨p, rfl, hP, hb1⟩
  have ht := Rep.lt (Rep.keep ht hb1)
  have hM := ML.keep hM hb1
  have HB := HB.trans (hb1.mono HB.size)
  have hP := Rep.lt hP.rd
  obtain ⟨hPA, hPC, hPV, _⟩ := rd_slice_elim hP
  subst hPV
  go_wp2_with fail
  refine (specRuleMove _ t path dst _ ht hp1 hd1 hZ HBB.out HX.out).mono ?_
  rintro e w2 ⟨q, rfl, hQ, hb2⟩
  have ht := Rep.lt (Rep.keep ht hb2)
  have hM := ML.keep hM hb2
  have HB := HB.trans (hb2.mono HB.size)
  have hP := Rep.lt (Rep.keep hP hb2)
  have hQ := Rep.lt hQ.rd
  obtain ⟨hQA, hQC, hQV, _⟩ := rd_slice_elim hQ
  subst hQV
  have hbb : (b != b) = false := by simp
  have hbe : (b == b) = true := by simp
  go_wp2_with fail
  refine (smTree_is _ _ x x _ hP hQ (decide_eq_true rfl)).mono ?_
  rintro e w3 ⟨rfl, hb3⟩
  have ht := Rep.lt (Rep.keep ht hb3)
  have hM := ML.keep hM hb3
  have HB := HB.trans (hb3.mono HB.size)
  have hP := Rep.lt (Rep.keep hP hb3)
  have hQ := Rep.lt (Rep.keep hQ hb3)
  cases hT : treeB t with
  | false =>
    go_wp2_with fail
    refine (treeOk_is _ t _ ht hS hM hT).mono ?_
    rintro e w4 ⟨rfl, hb4⟩
    have ht := Rep.lt (Rep.keep ht hb4)
    have hM := ML.keep hM hb4
    have HB := HB.trans (hb4.mono HB.size)
    have hP := Rep.lt (Rep.keep hP hb4)
    have hQ := Rep.lt (Rep.keep hQ hb4)
    go_wp2_with fail
    refine (smTree_is _ _ x x _ hP hQ (decide_eq_true rfl)).mono ?_
    rintro e w5 ⟨rfl, hb5⟩
    have ht := Rep.lt (Rep.keep ht hb5)
    have hM := ML.keep hM hb5
    have HB := HB.trans (hb5.mono HB.size)
    have hP := Rep.lt (Rep.keep hP hb5)
    have hQ := Rep.lt (Rep.keep hQ hb5)
    go_wp2
    go_ret
    exact ⟨rfl, HB⟩
  | true =>
    go_wp2_with fail
    refine (treeOk_is _ t _ ht hS hM hT).mono ?_
    rintro e w6 ⟨rfl, hb6⟩
    have ht := Rep.lt (Rep.keep ht hb6)
    have hM := ML.keep hM hb6
    have HB := HB.trans (hb6.mono HB.size)
    have hP := Rep.lt (Rep.keep hP hb6)
    have hQ := Rep.lt (Rep.keep hQ hb6)
    cases b with
    | false =>
      have hxt : decide (x = t) = true := decide_eq_true (by rw [← HX.out, ruleMove_ok hT, HBB.out]; rfl)
      go_wp2_with fail
      refine (smTree_is _ _ x t _ hP ht hxt).mono ?_
      rintro e w7 ⟨rfl, hb7⟩
      have ht := Rep.lt (Rep.keep ht hb7)
      have hM := ML.keep hM hb7
      have HB := HB.trans (hb7.mono HB.size)
      have hP := Rep.lt (Rep.keep hP hb7)
      go_wp2
      go_ret
      exact ⟨rfl, HB⟩
    | true =>
      obtain ⟨hTx, hlx, hlost, huse, hmx⟩ := rm_law hT HBB.out HX.out
      have hSx : ∀ f, f ∈ x → ShortS f.path := fun f hf => short_of (by
        obtain ⟨g, hg, h9⟩ := hmx f hf
        have := h100 g hg
        omega)
      obtain ⟨l, hl⟩ : ∃ l, ruleLost t = l := ⟨_, rfl⟩
      obtain ⟨m, hm⟩ : ∃ m, ruleLost x = m := ⟨_, rfl⟩
      obtain ⟨us, hus⟩ : ∃ us, ruleUses x path = us := ⟨_, rfl⟩
      have IL := fun (q : World) (v' : Value) (hv : rd (fun b => b < q.heap.size) q [v'] t) (hM : ML q) => implRuleLost v' t q hv hS hM
      have IX := fun (q : World) (v' : Value) (hv : rd (fun b => b < q.heap.size) q [v'] x) (hM : ML q) => implRuleLost v' x q hv hSx hM
      have IU := fun (q : World) (v' : Value) (hv : rd (fun b => b < q.heap.size) q [v'] x) (hM : ML q) => implRuleUses v' x path q hv hp2 hSx hM
      have hl9 := ruleLost_len t
      rw [hl] at IL hlost hl9
      rw [hm] at IX hlost
      rw [hus] at IU huse
      have HLO := Lib.hid hlost
      have HUS := Lib.hid huse
      have HLX := Lib.hid hlx
      clear hbb hbe hlost huse hlx hl hm hus hmx
      go_wp2_with fail
      refine (IL _ _ ht hM).mono ?_
      rintro e w8 ⟨lv, rfl, hL, hb8⟩
      have ht := Rep.lt (Rep.keep ht hb8)
      have hM := ML.keep hM hb8
      have HB := HB.trans (hb8.mono HB.size)
      have hP := Rep.lt (Rep.keep hP hb8)
      have hL := Rep.lt hL.rd
      obtain ⟨hLA, hLC, hLV, _⟩ := rd_slice_elim hL
      subst hLV
      go_wp2_with fail
      refine (IX _ _ hP hM).mono ?_
      rintro e w9 ⟨mv, rfl, hN, hb9⟩
      have ht := Rep.lt (Rep.keep ht hb9)
      have hM := ML.keep hM hb9
      have HB := HB.trans (hb9.mono HB.size)
      have hP := Rep.lt (Rep.keep hP hb9)
      have hL := Rep.lt (Rep.keep hL hb9)
      obtain ⟨aN, cN, hNV, _⟩ := hN.shape
      subst hNV
      clear hN IL IX
      have hls := (rd_slice_of hL).2
      have hsz := HB.size
      go_wp2
      go_loopw [12, 13] (fun n i wr => (∃ k j : Nat, k ≤ l.length ∧ j ≤ k ∧ i = .int .i64 k ∧ n = .int .i64 j ∧ Hid (j = ((l.take k).filter fun z => decide (z.ref = dst)).length)) ∧ Below w9.heap.size w9 wr) (fun _ i _ => l.length - (intOf i).toNat)
      case atStart => exact ⟨⟨0, 0, by omega, by omega, rfl, rfl, rfl⟩, Below.refl _ _⟩
      case round =>
        obtain ⟨⟨k, j, hk, hjk, rfl, rfl, HJ⟩, hbr⟩ := hrel
        have hsr := hbr.size
        by_cases hlt : k < l.length
        · obtain ⟨g, off, rfl, _, _, hc2, _, _, _⟩ := (hls.keep hbr).lost hlt
          have HS9 : Hid (((l.take (k + 1)).filter fun z => decide (z.ref = dst)).length = j + if l[k].ref = dst then 1 else 0) := by
            show _ = _
            rw [List.take_succ_eq_append_getElem hlt, List.filter_append, List.length_append, ← HJ.out]
            by_cases h9 : l[k].ref = dst <;> simp [h9]
          obtain ⟨u, hu⟩ : ∃ u, u = l[k] := ⟨_, rfl⟩
          rw [← hu] at hc2 HS9
          clear hu
          by_cases h9 : u.ref = dst
          · have hd : decide (u.ref = dst) = true := decide_eq_true h9
            have HS9 : Hid (j + 1 = ((l.take (k + 1)).filter fun z => decide (z.ref = dst)).length) := by have := HS9.out; rw [if_pos h9] at this; exact this.symm
            clear h9
            go_wp2
            go_roundw
            case rel => exact ⟨⟨k + 1, j + 1, by omega, by omega, by go_num, by go_num, HS9⟩, hbr⟩
            case measure => simp [intOf] <;> omega
          · have hd : decide (u.ref = dst) = false := decide_eq_false h9
            have HS9 : Hid (j = ((l.take (k + 1)).filter fun z => decide (z.ref = dst)).length) := by have := HS9.out; rw [if_neg h9] at this; exact this.symm
            clear h9
            go_wp2
            go_roundw
            case rel => exact ⟨⟨k + 1, j, by omega, by omega, by go_num, rfl, HS9⟩, hbr⟩
            case measure => simp [intOf] <;> omega
        · have HB := HB.trans (hbr.mono hsz)
          have hM := hM.keep hbr
          have ht := Rep.lt (Rep.keep ht hbr)
          have hP := Rep.lt (Rep.keep hP hbr)
          have hkl : k = l.length := by omega
          subst hkl
          have HJ9 : m.length + j = l.length := by have := HLO.out; rw [← HLO.out, HJ.out, List.take_of_length_le (Nat.le_refl _)]
          have hw9 : IntKind.i64.wrap ((l.length : Int) - (j : Int)) = (m.length : Int) := by
            rw [show (l.length : Int) - (j : Int) = (m.length : Int) from by omega]
            exact IntWalk.i64_in _ (by omega)
          have hlen : ((x.length : Int) == (t.length : Int)) = true := by rw [HLX.out]; simp
          have hmm : ((m.length : Int) == (m.length : Int)) = true := by simp
          clear hbr hsr HJ HLO
          by_cases hpd : path = dst
          · have hpd9 : decide (path = dst) = true := decide_eq_true hpd
            clear hpd
            go_wp2_with fail
            refine (treeOk_is _ x _ hP hSx hM hTx).mono ?_
            rintro e w10 ⟨rfl, hb10⟩
            have ht := Rep.lt (Rep.keep ht hb10)
            have hP := Rep.lt (Rep.keep hP hb10)
            have hM := ML.keep hM hb10
            have HB := HB.trans (hb10.mono HB.size)
            go_wp2
            go_ret
            exact ⟨rfl, HB⟩
          · have hpd9 : decide (path = dst) = false := decide_eq_false hpd
            have hu0 := HUS.out hpd
            have hu9 : ((us.length : Int) == 0) = true := by rw [hu0]; rfl
            clear hpd hu0
            go_wp2_with fail
            refine (treeOk_is _ x _ hP hSx hM hTx).mono ?_
            rintro e w11 ⟨rfl, hb11⟩
            have ht := Rep.lt (Rep.keep ht hb11)
            have hP := Rep.lt (Rep.keep hP hb11)
            have hM := ML.keep hM hb11
            have HB := HB.trans (hb11.mono HB.size)
            go_wp2_with fail
            refine (IU _ _ hP hM).mono ?_
            rintro e w12 ⟨u2, rfl, hU2, hb12⟩
            have ht := Rep.lt (Rep.keep ht hb12)
            have hP := Rep.lt (Rep.keep hP hb12)
            have hM := ML.keep hM hb12
            have HB := HB.trans (hb12.mono HB.size)
            obtain ⟨aU, cU, hUV, _⟩ := hU2.shape
            subst hUV
            clear hU2 IU
            go_wp2
            go_ret
            exact ⟨rfl, HB⟩
end Go.Proofs.YtegknjcifmenpaaDoor
