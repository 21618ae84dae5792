/-
  Walks: what is read of a tree. / The walk of a law: FnJoinChanges.
-/
import Derived.Test.YtegknjcifmenpaaGreatDoorVUM
import Derived.Test.YtegknjcifmenpaaGreatDoorVGR
import Derived.Test.YtegknjcifmenpaaGreatDoorVTR
import Derived.Test.YtegknjcifmenpaaGreatDoorVCT
import Derived.Test.YtegknjcifmenpaaGreatDoorVPB
import Derived.Test.YtegknjcifmenpaaGreatDoorVDJ
import Derived.Test.YtegknjcifmenpaaGreatDoorWJoinT
import Derived.Test.YtegknjcifmenpaaGreatDoorVJS
import Derived.Test.YtegknjcifmenpaaGreatDoorVSM
import Derived.Test.YtegknjcifmenpaaGreatDoorWChO
import Derived.Test.YtegknjcifmenpaaGreatDoorVCK
import Derived.Test.YtegknjcifmenpaaGreatDoorVCH
set_option linter.unusedVariables false
namespace Go.Proofs.YtegknjcifmenpaaGreatDoor
open Go.RowKit Go.Vc
open Go.Vc.Rep (rd)
open Go.Vc.Own (own)

set_option maxHeartbeats 1000000 in
theorem implTreeGet {S : Nat → Prop} (v : Value) (t : List File) (path : ByteArray) (w : World) (hv : rd S w [v] t) (hS : ∀ f, f ∈ t → ShortS f.path) (hM : ML w) {M : Option (List ByteArray)} (h : treeGet t path = M) :
    Calls Tryz.prog 35 #[v, .string path] w fun e w' => ∃ v', e = .returned (.tuple #[v', .bool M.isSome]) ∧ Fresh w.heap.size w'.heap.size w' [v'] (M.getD []) ∧ Below w.heap.size w w' := by
  have hv := Rep.lt hv
  cases hb : treeB t with
  | false =>
    rw [treeGet_bad hb] at h
    subst h
    go_enter Tryz.func35, Tryz.ntmps35
    go_wp2_with fail
    refine (treeOk_is _ t _ hv hS hM hb).mono ?_
    rintro e w1 ⟨rfl, hb1⟩
    go_wp2
    go_ret2
    exact ⟨.slice none 0 0, rfl, Fresh.nil _ _ _ (by decide), hb1⟩
  | true =>
    rw [treeGet_ok hb] at h
    have HH := Lib.hid h
    clear h
    obtain ⟨h8, h10⟩ := tree_files hb
    go_enter Tryz.func35, Tryz.ntmps35
    go_wp2_with fail
    refine (treeOk_is _ t _ hv hS hM hb).mono ?_
    rintro e w1 ⟨rfl, hb1⟩
    go_wp2_with fail
    refine (get_any _ t path _ (Rep.keep hv hb1) h10 HH.out).mono ?_
    rintro e w2 ⟨v2, rfl, hF, hb2⟩
    go_wp2
    go_ret2
    exact ⟨v2, rfl, hF.mono hb1.size (Nat.le_refl _), hb1.trans (hb2.mono hb1.size)⟩
end Go.Proofs.YtegknjcifmenpaaGreatDoor
namespace Go.Proofs.YtegknjcifmenpaaGreatDoor
open Go.RowKit Go.Vc
open Go.Vc.Rep (rd)
open Go.Vc.Own (own)

set_option maxHeartbeats 8000000 in
set_option maxRecDepth 100000 in
theorem lawFnJoinChanges (v0 : Value) (bs : List UInt8) (w : World) (h0 : rd (fun b => b < w.heap.size) w [v0] bs) (hM : ML w) :
    Calls Tryz.prog 9 #[v0] w fun e w' => e = .returned (.bool true) ∧ Below w.heap.size w w' := by
  obtain ⟨a0, c0, rfl, hs0⟩ := rd_slice_elim h0
  have hle := hs0.le
  by_cases hbig : 1048576 < bs.length
  · go_enter Tryz.func9, Tryz.ntmps9
    go_wp2
    go_ret
    exact ⟨rfl, Below.refl _ _⟩
  go_enter Tryz.func9, Tryz.ntmps9
  go_wp2_with fail
  refine (drawJoinFree_any _ bs w h0 (by omega)).mono ?_
  rintro e w0 ⟨v, u, x, o, a, b, rfl, hSo9, hSa9, hSb9, ho, ha, hb, HB⟩
  have ho := Rep.lt ho
  have ha := Rep.lt ha
  have hb := Rep.lt hb
  obtain ⟨ao, co, hvo, _⟩ := rd_slice_elim ho
  subst hvo
  obtain ⟨aa, ca, hva, _⟩ := rd_slice_elim ha
  subst hva
  obtain ⟨ab, cb, hvb, _⟩ := rd_slice_elim hb
  subst hvb
  have hM := hM.keep HB
  have hSo : ∀ f, f ∈ o → ShortS f.path := fun f hf => short_of (by have := (hSo9.2 f hf).1; omega)
  have hSa : ∀ f, f ∈ a → ShortS f.path := fun f hf => short_of (by have := (hSa9.2 f hf).1; omega)
  have hSb : ∀ f, f ∈ b → ShortS f.path := fun f hf => short_of (by have := (hSb9.2 f hf).1; omega)
  clear h0 hs0 hle hbig hSo9 hSa9 hSb9
  obtain ⟨c, hc⟩ : ∃ c, joinFree o a b = c := ⟨_, rfl⟩
  obtain ⟨J, hJ⟩ : ∃ J, joinTree o a b = J := ⟨_, rfl⟩
  have IT := fun (q : World) (v1 v2 v3 : Value) (h1 : rd (fun b => b < q.heap.size) q [v1] o) (h2 : rd (fun b => b < q.heap.size) q [v2] a) (h3 : rd (fun b => b < q.heap.size) q [v3] b) (hM : ML q) => implJoinFree v1 v2 v3 o a b q h1 h2 h3 hSo hSa hSb hM hc
  have JT := fun (q : World) (v1 v2 v3 : Value) (h1 : rd (fun b => b < q.heap.size) q [v1] o) (h2 : rd (fun b => b < q.heap.size) q [v2] a) (h3 : rd (fun b => b < q.heap.size) q [v3] b) (hM : ML q) => implJoinTree v1 v2 v3 o a b q h1 h2 h3 hSo hSa hSb hM
  have ST := fun (q : World) (v1 v2 v3 : Value) (h1 : rd (fun b => b < q.heap.size) q [v1] o) (h2 : rd (fun b => b < q.heap.size) q [v2] a) (h3 : rd (fun b => b < q.heap.size) q [v3] b) => specJoinFree v1 v2 v3 o a b q h1 h2 h3 hc
  rw [hJ] at JT
  obtain ⟨t, d⟩ := J
  simp only at JT
  have HC := Lib.hid hc
  have HJ := Lib.hid hJ
  clear hc hJ
  go_wp2_with fail
  refine (IT _ _ _ _ ho ha hb hM).mono ?_
  rintro e w1 ⟨rfl, hb1⟩
  have ho := Rep.lt (Rep.keep ho hb1)
  have ha := Rep.lt (Rep.keep ha hb1)
  have hb := Rep.lt (Rep.keep hb hb1)
  have hM := ML.keep hM hb1
  have HB := HB.trans (hb1.mono HB.size)
  go_wp2_with fail
  refine (JT _ _ _ _ ho ha hb hM).mono ?_
  rintro e w2 ⟨p, rfl, hP, hb2⟩
  have ho := Rep.lt (Rep.keep ho hb2)
  have ha := Rep.lt (Rep.keep ha hb2)
  have hb := Rep.lt (Rep.keep hb hb2)
  have hM := ML.keep hM hb2
  have HB := HB.trans (hb2.mono HB.size)
  have hP := Rep.lt hP.rd
  obtain ⟨hPA, hPC, hPV, _⟩ := rd_slice_elim hP
  subst hPV
  go_wp2_with fail
  refine (ST _ _ _ _ ho ha hb).mono ?_
  rintro e w3 ⟨rfl, hb3⟩
  have ho := Rep.lt (Rep.keep ho hb3)
  have ha := Rep.lt (Rep.keep ha hb3)
  have hb := Rep.lt (Rep.keep hb hb3)
  have hM := ML.keep hM hb3
  have HB := HB.trans (hb3.mono HB.size)
  have hP := Rep.lt (Rep.keep hP hb3)
  cases c with
  | false =>
    go_wp2_with fail
    refine (ST _ _ _ _ ho ha hb).mono ?_
    rintro e w4 ⟨rfl, hb4⟩
    have ho := Rep.lt (Rep.keep ho hb4)
    have ha := Rep.lt (Rep.keep ha hb4)
    have hb := Rep.lt (Rep.keep hb hb4)
    have hM := ML.keep hM hb4
    have HB := HB.trans (hb4.mono HB.size)
    have hP := Rep.lt (Rep.keep hP hb4)
    go_wp2
    go_ret
    exact ⟨rfl, HB⟩
  | true =>
    cases d with
    | false =>
      go_wp2_with fail
      refine (ST _ _ _ _ ho ha hb).mono ?_
      rintro e w5 ⟨rfl, hb5⟩
      have ho := Rep.lt (Rep.keep ho hb5)
      have ha := Rep.lt (Rep.keep ha hb5)
      have hb := Rep.lt (Rep.keep hb hb5)
      have hM := ML.keep hM hb5
      have HB := HB.trans (hb5.mono HB.size)
      have hP := Rep.lt (Rep.keep hP hb5)
      go_wp2
      go_ret
      exact ⟨rfl, HB⟩
    | true =>
      clear IT JT ST
      have hj := joinTree_ok HJ.out
      have hlaw := join_ch HC.out HJ.out
      obtain ⟨tro, tra, trb⟩ := threeT_iff.1 hj.1
      have hSt : ∀ f, f ∈ t → ShortS f.path := fun f hf => by
        have hg := getT_of (dist_tree hj.2.1) hf
        have h9 := hj.2.2 f.path
        have hmem : f.path ∈ allP o a b := Classical.byContradiction fun hn => by
          rw [mem_allP] at hn
          have e1 : getT o f.path = none := getT_none fun g hg e => hn (.inl ⟨g, hg, e⟩)
          have e2 : getT a f.path = none := getT_none fun g hg e => hn (.inr (.inl ⟨g, hg, e⟩))
          have e3 : getT b f.path = none := getT_none fun g hg e => hn (.inr (.inr ⟨g, hg, e⟩))
          unfold joinAt at h9
          rw [e1, e2, e3, joinOne_left, hg] at h9
          cases (Prod.mk.inj h9).1
        exact allP_small (P := ShortS) hSo hSa hSb _ hmem
      have hS1 := change_short (P := ShortS) tro tra (by unfold ShortS; decide) hSo hSa
      have hS2 := change_short (P := ShortS) tro trb (by unfold ShortS; decide) hSo hSb
      have hI1 : changesPathsI (changesOf o a) = sortS (pathsC (changesOf o a)) := if_pos (changes_of tro tra).1
      have hI2 : changesPathsI (changesOf o b) = sortS (pathsC (changesOf o b)) := if_pos (changes_of tro trb).1
      rw [← hI1, ← hI2] at hlaw
      have C1 := fun (q : World) (v1 v2 : Value) (h1 : rd (fun b => b < q.heap.size) q [v1] o) (h2 : rd (fun b => b < q.heap.size) q [v2] a) (hM : ML q) => implChangesOf v1 v2 o a q h1 h2 hSo hSa hM
      have C2 := fun (q : World) (v1 v2 : Value) (h1 : rd (fun b => b < q.heap.size) q [v1] o) (h2 : rd (fun b => b < q.heap.size) q [v2] b) (hM : ML q) => implChangesOf v1 v2 o b q h1 h2 hSo hSb hM
      have P1 := fun (q : World) (v1 : Value) (h1 : rd (fun b => b < q.heap.size) q [v1] (changesOf o a)) (hM : ML q) => changesPaths_any v1 _ q h1 hS1 hM
      have P2 := fun (q : World) (v1 : Value) (h1 : rd (fun b => b < q.heap.size) q [v1] (changesOf o b)) (hM : ML q) => changesPaths_any v1 _ q h1 hS2 hM
      obtain ⟨mi, hmi⟩ : ∃ m, changesPathsI (changesOf o a) = m := ⟨_, rfl⟩
      obtain ⟨th, hth⟩ : ∃ m, changesPathsI (changesOf o b) = m := ⟨_, rfl⟩
      rw [hmi] at P1 hlaw
      rw [hth] at P2 hlaw
      clear hmi hth hI1 hI2 hS1 hS2
      obtain ⟨L1, hL1⟩ : ∃ L, changesOf o a = L := ⟨_, rfl⟩
      obtain ⟨L2, hL2⟩ : ∃ L, changesOf o b = L := ⟨_, rfl⟩
      rw [hL1] at C1 P1
      rw [hL2] at C2 P2
      clear hL1 hL2
      have GT := fun (q : World) (v' : Value) (path : ByteArray) (hv : rd (fun b => b < q.heap.size) q [v'] t) (hM : ML q) (M : Option (List ByteArray)) (h : getT t path = M) => implTreeGet v' t path q hv hSt hM ((treeGet_ok hj.2.1).trans h)
      have GA := fun (q : World) (v' : Value) (path : ByteArray) (hv : rd (fun b => b < q.heap.size) q [v'] a) (hM : ML q) (M : Option (List ByteArray)) (h : getT a path = M) => implTreeGet v' a path q hv hSa hM ((treeGet_ok tra).trans h)
      have GB := fun (q : World) (v' : Value) (path : ByteArray) (hv : rd (fun b => b < q.heap.size) q [v'] b) (hM : ML q) (M : Option (List ByteArray)) (h : getT b path = M) => implTreeGet v' b path q hv hSb hM ((treeGet_ok trb).trans h)
      have HL1 := Lib.hid hlaw.1
      have HL2 := Lib.hid hlaw.2
      have HTT := Lib.hid hj.2.1
      clear tro tra trb hj hlaw HC HJ
      go_wp2_with fail
      refine (C1 _ _ _ ho ha hM).mono ?_
      rintro e w6 ⟨q1, rfl, hL1, hb6⟩
      have ho := Rep.lt (Rep.keep ho hb6)
      have ha := Rep.lt (Rep.keep ha hb6)
      have hb := Rep.lt (Rep.keep hb hb6)
      have hM := ML.keep hM hb6
      have HB := HB.trans (hb6.mono HB.size)
      have hP := Rep.lt (Rep.keep hP hb6)
      have hL1 := Rep.lt hL1.rd
      obtain ⟨hL1A, hL1C, hL1V, _⟩ := rd_slice_elim hL1
      subst hL1V
      go_wp2_with fail
      refine (P1 _ _ hL1 hM).mono ?_
      rintro e w7 ⟨q2, rfl, hMi, hb7⟩
      have ho := Rep.lt (Rep.keep ho hb7)
      have ha := Rep.lt (Rep.keep ha hb7)
      have hb := Rep.lt (Rep.keep hb hb7)
      have hM := ML.keep hM hb7
      have HB := HB.trans (hb7.mono HB.size)
      have hP := Rep.lt (Rep.keep hP hb7)
      have hL1 := Rep.lt (Rep.keep hL1 hb7)
      have hMi := Rep.lt hMi.rd
      obtain ⟨hMiA, hMiC, hMiV, _⟩ := rd_slice_elim hMi
      subst hMiV
      clear hL1 C1 P1
      go_wp2_with fail
      refine (C2 _ _ _ ho hb hM).mono ?_
      rintro e w8 ⟨q3, rfl, hL2, hb8⟩
      have ho := Rep.lt (Rep.keep ho hb8)
      have ha := Rep.lt (Rep.keep ha hb8)
      have hb := Rep.lt (Rep.keep hb hb8)
      have hM := ML.keep hM hb8
      have HB := HB.trans (hb8.mono HB.size)
      have hP := Rep.lt (Rep.keep hP hb8)
      have hMi := Rep.lt (Rep.keep hMi hb8)
      have hL2 := Rep.lt hL2.rd
      obtain ⟨hL2A, hL2C, hL2V, _⟩ := rd_slice_elim hL2
      subst hL2V
      go_wp2_with fail
      refine (P2 _ _ hL2 hM).mono ?_
      rintro e w9 ⟨q4, rfl, hTh, hb9⟩
      have ha := Rep.lt (Rep.keep ha hb9)
      have hb := Rep.lt (Rep.keep hb hb9)
      have hM := ML.keep hM hb9
      have HB := HB.trans (hb9.mono HB.size)
      have hP := Rep.lt (Rep.keep hP hb9)
      have hMi := Rep.lt (Rep.keep hMi hb9)
      have hL2 := Rep.lt (Rep.keep hL2 hb9)
      have hTh := Rep.lt hTh.rd
      obtain ⟨hThA, hThC, hThV, _⟩ := rd_slice_elim hTh
      subst hThV
      clear hL2 C2 P2 ho
      obtain ⟨_, hmis⟩ := rd_slice_of hMi
      have hml := hmis.le
      have hsz := HB.size
      go_wp2
      go_loopw [11] (fun i wr => (∃ k : Nat, k ≤ mi.length ∧ i = .int .i64 k) ∧ Below w9.heap.size w9 wr) (fun i _ => mi.length - (intOf i).toNat)
      case atStart => exact ⟨⟨0, by omega, rfl⟩, Below.refl _ _⟩
      case round =>
        obtain ⟨⟨k, hk, rfl⟩, hbr⟩ := hrel
        obtain ⟨wx, rfl⟩ : ∃ wx : World, wx = wr := ⟨_, rfl⟩
        have hsr := hbr.size
        have hM := hM.keep hbr
        have hP := Rep.lt (Rep.keep hP hbr)
        have ha := Rep.lt (Rep.keep ha hbr)
        have hb := Rep.lt (Rep.keep hb hbr)
        have hMi2 := Rep.lt (Rep.keep hMi hbr)
        have hTh := Rep.lt (Rep.keep hTh hbr)
        by_cases hlt : k < mi.length
        · obtain ⟨g, off, hge, hc0, hz0⟩ := (hmis.keep hbr).str hlt
          subst hge
          have hq9 := HL1.out mi[k] (List.getElem_mem hlt)
          obtain ⟨q, hq⟩ : ∃ q, q = mi[k] := ⟨_, rfl⟩
          rw [← hq] at hc0 hz0 hq9
          obtain ⟨M, hMA⟩ : ∃ M, getT a q = M := ⟨_, rfl⟩
          rw [hMA] at hq9
          have GTq := fun (z : World) (v' : Value) (hv : rd (fun b => b < z.heap.size) z [v'] t) (hM : ML z) => GT z v' q hv hM M hq9
          have GAq := fun (z : World) (v' : Value) (hv : rd (fun b => b < z.heap.size) z [v'] a) (hM : ML z) => GA z v' q hv hM M hMA
          obtain ⟨bm, hbm⟩ : ∃ bm, M.isSome = bm := ⟨_, rfl⟩
          obtain ⟨xm, hxm⟩ : ∃ xm, M.getD [] = xm := ⟨_, rfl⟩
          rw [hbm, hxm] at GTq GAq
          have hne : (bm != bm) = false := by simp
          clear hq hq9 hMA hbm hxm hb hTh hMi2 hmis GT GA GB
          go_wp2_with fail
          refine (GTq _ _ hP hM).mono ?_
          rintro e w21 ⟨g1, rfl, hG1, hb1⟩
          have hbr := hbr.trans (hb1.mono hsr)
          have hsr := hbr.size
          have hc0 := keepc hc0 hb1
          have ha := Rep.lt (Rep.keep ha hb1)
          have hM := hM.keep hb1
          have hG1 := Rep.lt hG1.rd
          obtain ⟨a5, c5, hv5, _⟩ := rd_slice_elim hG1
          subst hv5
          go_wp2_with fail
          refine (GAq _ _ ha hM).mono ?_
          rintro e w22 ⟨g2, rfl, hG2, hb2⟩
          have hbr := hbr.trans (hb2.mono hsr)
          have hsr := hbr.size
          have hG1 := Rep.lt (Rep.keep hG1 hb2)
          have hG2 := Rep.lt hG2.rd
          obtain ⟨a6, c6, hv6, _⟩ := rd_slice_elim hG2
          subst hv6
          go_wp2_with fail
          refine (smTexts_c _ _ xm xm _ hG1 hG2 (decide_eq_true rfl)).mono ?_
          rintro e w23 ⟨rfl, hb3⟩
          have hbr := hbr.trans (hb3.mono hsr)
          go_wp2
          go_roundw
          case rel => exact ⟨⟨k + 1, by omega, by go_num⟩, hbr⟩
          case measure => simp [intOf] <;> omega
        · clear GA ha hmis hMi HL1
          obtain ⟨_, hths⟩ := rd_slice_of hTh
          have htl := hths.le
          go_wp2
          go_loopw [16] (fun i wr => (∃ k : Nat, k ≤ th.length ∧ i = .int .i64 k) ∧ Below wx.heap.size wx wr) (fun i _ => th.length - (intOf i).toNat)
          case atStart => exact ⟨⟨0, by omega, rfl⟩, Below.refl _ _⟩
          case round =>
            obtain ⟨⟨j, hj, rfl⟩, hbr2⟩ := hrel
            obtain ⟨wy, rfl⟩ : ∃ wy : World, wy = wr := ⟨_, rfl⟩
            have hsr2 := hbr2.size
            have hM2 := hM.keep hbr2
            have hP2 := Rep.lt (Rep.keep hP hbr2)
            have hb2 := Rep.lt (Rep.keep hb hbr2)
            have hMi2 := Rep.lt (Rep.keep hMi2 hbr2)
            by_cases hlt2 : j < th.length
            · obtain ⟨g, off, hge, hc0, hz0⟩ := (hths.keep hbr2).str hlt2
              subst hge
              have hq9 := HL2.out th[j] (List.getElem_mem hlt2)
              obtain ⟨q, hq⟩ : ∃ q, q = th[j] := ⟨_, rfl⟩
              rw [← hq] at hc0 hz0 hq9
              obtain ⟨hq9, hqm⟩ := hq9
              have hhs : hasS q mi = false := by
                unfold hasS
                rw [List.any_eq_false]
                exact fun x hx e => hqm (of_decide_eq_true e ▸ hx)
              obtain ⟨M, hMA⟩ : ∃ M, getT b q = M := ⟨_, rfl⟩
              rw [hMA] at hq9
              have GTq := fun (z : World) (v' : Value) (hv : rd (fun b => b < z.heap.size) z [v'] t) (hM : ML z) => GT z v' q hv hM M hq9
              have GBq := fun (z : World) (v' : Value) (hv : rd (fun b => b < z.heap.size) z [v'] b) (hM : ML z) => GB z v' q hv hM M hMA
              obtain ⟨bm, hbm⟩ : ∃ bm, M.isSome = bm := ⟨_, rfl⟩
              obtain ⟨xm, hxm⟩ : ∃ xm, M.getD [] = xm := ⟨_, rfl⟩
              rw [hbm, hxm] at GTq GBq
              have hne : (bm != bm) = false := by simp
              clear hq hq9 hqm hMA hbm hxm hP hb hTh hths GT GB
              go_wp2_with fail
              refine (GTq _ _ hP2 hM2).mono ?_
              rintro e w31 ⟨g1, rfl, hG1, hb1⟩
              have hbr2 := hbr2.trans (hb1.mono hsr2)
              have hsr2 := hbr2.size
              have hc0 := keepc hc0 hb1
              have hb2 := Rep.lt (Rep.keep hb2 hb1)
              have hMi2 := Rep.lt (Rep.keep hMi2 hb1)
              have hM2 := hM2.keep hb1
              have hG1 := Rep.lt hG1.rd
              obtain ⟨a5, c5, hv5, _⟩ := rd_slice_elim hG1
              subst hv5
              go_wp2_with fail
              refine (GBq _ _ hb2 hM2).mono ?_
              rintro e w32 ⟨g2, rfl, hG2, hb4⟩
              have hbr2 := hbr2.trans (hb4.mono hsr2)
              have hsr2 := hbr2.size
              have hc0 := keepc hc0 hb4
              have hMi2 := Rep.lt (Rep.keep hMi2 hb4)
              have hG1 := Rep.lt (Rep.keep hG1 hb4)
              have hG2 := Rep.lt hG2.rd
              obtain ⟨a6, c6, hv6, _⟩ := rd_slice_elim hG2
              subst hv6
              go_wp2_with fail
              refine (smTexts_c _ _ xm xm _ hG1 hG2 (decide_eq_true rfl)).mono ?_
              rintro e w33 ⟨rfl, hb3⟩
              have hbr2 := hbr2.trans (hb3.mono hsr2)
              have hsr2 := hbr2.size
              have hc0 := keepc hc0 hb3
              have hMi2 := Rep.lt (Rep.keep hMi2 hb3)
              clear hG1 hG2
              go_wp2_with fail
              refine (smHas_is _ mi q _ hMi2 hhs).mono ?_
              rintro e w34 ⟨rfl, hb5⟩
              have hbr2 := hbr2.trans (hb5.mono hsr2)
              go_wp2
              go_roundw
              case rel => exact ⟨⟨j + 1, by omega, by go_num⟩, hbr2⟩
              case measure => simp [intOf] <;> omega
            · clear hths hTh HL2 GT GB
              go_wp2_with fail
              refine (treeOk_is _ t _ hP2 hSt hM2 HTT.out).mono ?_
              rintro e w41 ⟨rfl, hb5⟩
              go_wp2
              go_ret
              exact ⟨rfl, HB.trans (((hbr.trans (hbr2.mono hsr)).trans (hb5.mono (by omega))).mono hsz)⟩
      
end Go.Proofs.YtegknjcifmenpaaGreatDoor
