/-
  Walks: what is read of a tree. / The walk of a law: FnJoinPath.
-/
import Derived.Test.YtegknjcifmenpaaGreatDoorVUM
import Derived.Test.YtegknjcifmenpaaGreatDoorVGR
import Derived.Test.YtegknjcifmenpaaGreatDoorVTR
import Derived.Test.YtegknjcifmenpaaGreatDoorWTreeS
import Derived.Test.YtegknjcifmenpaaGreatDoorVPB
import Derived.Test.YtegknjcifmenpaaGreatDoorWUses
import Derived.Test.YtegknjcifmenpaaGreatDoorVDJ
import Derived.Test.YtegknjcifmenpaaGreatDoorVDT
import Derived.Test.YtegknjcifmenpaaGreatDoorWJoinT
import Derived.Test.YtegknjcifmenpaaGreatDoorVJS
import Derived.Test.YtegknjcifmenpaaGreatDoorVSM
set_option linter.unusedVariables false
namespace Go.Proofs.YtegknjcifmenpaaGreatDoor
open Go.RowKit Go.Vc
open Go.Vc.Rep (rd)
open Go.Vc.Own (own)

set_option maxHeartbeats 1000000 in
theorem implTreeGet {S : Nat → Prop} (v : Value) (t : List File) (path : ByteArray) (w : World) (hv : rd S w [v] t) (hS : ∀ f, f ∈ t → ShortS f.path) (hM : ML w) {M : Option (List ByteArray)} (h : treeGet t path = M) :
    Calls Tryz.prog 35 #[v, .string path] w fun e w' => ∃ v', e = .returned (.tuple #[v', .bool M.isSome]) ∧ Fresh w.heap.size w'.heap.size w' [v'] (M.getD []) ∧ Below w.heap.size w w' := by
  have hv := Rep.lt hv
  cases hb : treeB t with
  | false =>
    rw [treeGet_bad hb] at h
    subst h
    go_enter Tryz.func35, Tryz.ntmps35
    go_wp2_with fail
    refine (treeOk_is _ t _ hv hS hM hb).mono ?_
    rintro e w1 ⟨rfl, hb1⟩
    go_wp2
    go_ret2
    exact ⟨.slice none 0 0, rfl, Fresh.nil _ _ _ (by decide), hb1⟩
  | true =>
    rw [treeGet_ok hb] at h
    have HH := Lib.hid h
    clear h
    obtain ⟨h8, h10⟩ := tree_files hb
    go_enter Tryz.func35, Tryz.ntmps35
    go_wp2_with fail
    refine (treeOk_is _ t _ hv hS hM hb).mono ?_
    rintro e w1 ⟨rfl, hb1⟩
    go_wp2_with fail
    refine (get_any _ t path _ (Rep.keep hv hb1) h10 HH.out).mono ?_
    rintro e w2 ⟨v2, rfl, hF, hb2⟩
    go_wp2
    go_ret2
    exact ⟨v2, rfl, hF.mono hb1.size (Nat.le_refl _), hb1.trans (hb2.mono hb1.size)⟩
end Go.Proofs.YtegknjcifmenpaaGreatDoor
namespace Go.Vc
theorem opt_ext {M1 M2 : Option (List ByteArray)} (h1 : M1.isSome = M2.isSome) (h2 : M1.getD [] = M2.getD []) : M1 = M2 := by
  cases M1 <;> cases M2 <;> simp_all
end Go.Vc
namespace Go.Proofs.YtegknjcifmenpaaGreatDoor
open Go.RowKit Go.Vc
open Go.Vc.Rep (rd)
open Go.Vc.Own (own)

set_option maxHeartbeats 8000000 in
set_option maxRecDepth 100000 in
theorem lawFnJoinPath (v0 : Value) (bs : List UInt8) (v1 : Value) (cs : List UInt8) (w : World) (h0 : rd (fun b => b < w.heap.size) w [v0] bs) (h1 : rd (fun b => b < w.heap.size) w [v1] cs) (hM : ML w) :
    Calls Tryz.prog 10 #[v0, v1] w fun e w' => e = .returned (.bool true) ∧ Below w.heap.size w w' := by
  obtain ⟨a0, c0, rfl, hs0⟩ := rd_slice_elim h0
  have hle := hs0.le
  obtain ⟨a1, c1, rfl, hs1⟩ := rd_slice_elim h1
  have hle1 := hs1.le
  by_cases hbig : 1048576 < bs.length
  · go_enter Tryz.func10, Tryz.ntmps10
    go_wp2
    go_ret
    exact ⟨rfl, Below.refl _ _⟩
  by_cases hbig1 : 1048576 < cs.length
  · go_enter Tryz.func10, Tryz.ntmps10
    go_wp2
    go_ret
    exact ⟨rfl, Below.refl _ _⟩
  go_enter Tryz.func10, Tryz.ntmps10
  go_wp2_with fail
  refine (drawJoinTree_any _ bs w h0 (by omega)).mono ?_
  rintro e w0 ⟨v, u, x, o, a, b, rfl, hSo9, hSa9, hSb9, ho, ha, hb, HB⟩
  have ho := Rep.lt ho
  have ha := Rep.lt ha
  have hb := Rep.lt hb
  obtain ⟨ao, co, hvo, _⟩ := rd_slice_elim ho
  subst hvo
  obtain ⟨aa, ca, hva, _⟩ := rd_slice_elim ha
  subst hva
  obtain ⟨ab, cb, hvb, _⟩ := rd_slice_elim hb
  subst hvb
  have hM := hM.keep HB
  have hSo : ∀ f, f ∈ o → ShortS f.path := fun f hf => short_of (by have := (hSo9.2 f hf).1; omega)
  have hSa : ∀ f, f ∈ a → ShortS f.path := fun f hf => short_of (by have := (hSa9.2 f hf).1; omega)
  have hSb : ∀ f, f ∈ b → ShortS f.path := fun f hf => short_of (by have := (hSb9.2 f hf).1; omega)
  have h1 := Rep.lt (Rep.keep h1 HB)
  clear h0 hs0 hle hbig hSo9 hSa9 hSb9 hs1 hle1
  obtain ⟨J, hJ⟩ : ∃ J, joinTree o a b = J := ⟨_, rfl⟩
  have IT := fun (q : World) (v1 v2 v3 : Value) (h1 : rd (fun b => b < q.heap.size) q [v1] o) (h2 : rd (fun b => b < q.heap.size) q [v2] a) (h3 : rd (fun b => b < q.heap.size) q [v3] b) (hM : ML q) => implJoinTree v1 v2 v3 o a b q h1 h2 h3 hSo hSa hSb hM
  have ST := fun (q : World) (v1 v2 v3 : Value) (h1 : rd (fun b => b < q.heap.size) q [v1] o) (h2 : rd (fun b => b < q.heap.size) q [v2] a) (h3 : rd (fun b => b < q.heap.size) q [v3] b) => specJoinTree v1 v2 v3 o a b q h1 h2 h3
  rw [hJ] at IT ST
  obtain ⟨t, c⟩ := J
  simp only at IT ST
  have HJ := Lib.hid hJ
  clear hJ
  go_wp2_with fail
  refine (IT _ _ _ _ ho ha hb hM).mono ?_
  rintro e w1 ⟨p, rfl, hP, hb1⟩
  have ho := Rep.lt (Rep.keep ho hb1)
  have ha := Rep.lt (Rep.keep ha hb1)
  have hb := Rep.lt (Rep.keep hb hb1)
  have hM := ML.keep hM hb1
  have HB := HB.trans (hb1.mono HB.size)
  have h1 := Rep.lt (Rep.keep h1 hb1)
  have hP := Rep.lt hP.rd
  obtain ⟨hPA, hPC, hPV, _⟩ := rd_slice_elim hP
  subst hPV
  go_wp2_with fail
  refine (ST _ _ _ _ ho ha hb).mono ?_
  rintro e w2 ⟨p2, rfl, hQ, hb2⟩
  have ho := Rep.lt (Rep.keep ho hb2)
  have ha := Rep.lt (Rep.keep ha hb2)
  have hb := Rep.lt (Rep.keep hb hb2)
  have hM := ML.keep hM hb2
  have HB := HB.trans (hb2.mono HB.size)
  have h1 := Rep.lt (Rep.keep h1 hb2)
  have hP := Rep.lt (Rep.keep hP hb2)
  have hQ := Rep.lt hQ.rd
  obtain ⟨hQA, hQC, hQV, _⟩ := rd_slice_elim hQ
  subst hQV
  clear IT ST
  cases c with
  | false =>
    go_wp2_with fail
    refine (smTree_is _ _ t t _ hP hQ (decide_eq_true rfl)).mono ?_
    rintro e w3 ⟨rfl, hb3⟩
    have ho := Rep.lt (Rep.keep ho hb3)
    have ha := Rep.lt (Rep.keep ha hb3)
    have hb := Rep.lt (Rep.keep hb hb3)
    have hM := ML.keep hM hb3
    have HB := HB.trans (hb3.mono HB.size)
    have h1 := Rep.lt (Rep.keep h1 hb3)
    have hP := Rep.lt (Rep.keep hP hb3)
    have hQ := Rep.lt (Rep.keep hQ hb3)
    go_wp2_with fail
    refine (smTree_is _ _ t t _ hP hQ (decide_eq_true rfl)).mono ?_
    rintro e w4 ⟨rfl, hb4⟩
    have ho := Rep.lt (Rep.keep ho hb4)
    have ha := Rep.lt (Rep.keep ha hb4)
    have hb := Rep.lt (Rep.keep hb hb4)
    have hM := ML.keep hM hb4
    have HB := HB.trans (hb4.mono HB.size)
    have h1 := Rep.lt (Rep.keep h1 hb4)
    have hP := Rep.lt (Rep.keep hP hb4)
    have hQ := Rep.lt (Rep.keep hQ hb4)
    go_wp2
    go_ret
    exact ⟨rfl, HB⟩
  | true =>
    go_wp2_with fail
    refine (smTree_is _ _ t t _ hP hQ (decide_eq_true rfl)).mono ?_
    rintro e w5 ⟨rfl, hb5⟩
    have ho := Rep.lt (Rep.keep ho hb5)
    have ha := Rep.lt (Rep.keep ha hb5)
    have hb := Rep.lt (Rep.keep hb hb5)
    have hM := ML.keep hM hb5
    have HB := HB.trans (hb5.mono HB.size)
    have h1 := Rep.lt (Rep.keep h1 hb5)
    have hP := Rep.lt (Rep.keep hP hb5)
    have hQ := Rep.lt (Rep.keep hQ hb5)
    have hj := joinTree_ok HJ.out
    have hSt : ∀ f, f ∈ t → ShortS f.path := fun f hf => by
      have hg := getT_of (dist_tree hj.2.1) hf
      have h9 := hj.2.2 f.path
      have hmem : f.path ∈ allP o a b := Classical.byContradiction fun hn => by
        rw [mem_allP] at hn
        have e1 : getT o f.path = none := getT_none fun g hg e => hn (.inl ⟨g, hg, e⟩)
        have e2 : getT a f.path = none := getT_none fun g hg e => hn (.inr (.inl ⟨g, hg, e⟩))
        have e3 : getT b f.path = none := getT_none fun g hg e => hn (.inr (.inr ⟨g, hg, e⟩))
        unfold joinAt at h9
        rw [e1, e2, e3, joinOne_left, hg] at h9
        cases (Prod.mk.inj h9).1
      exact allP_small (P := ShortS) hSo hSa hSb _ hmem
    clear hQ
    go_wp2_with fail
    refine (drawTreeGet_any _ cs _ h1 (by omega)).mono ?_
    rintro e w6 ⟨vd, td, path, rfl, _, hz, _, hb6⟩
    have ho := Rep.lt (Rep.keep ho hb6)
    have ha := Rep.lt (Rep.keep ha hb6)
    have hb := Rep.lt (Rep.keep hb hb6)
    have hM := ML.keep hM hb6
    have HB := HB.trans (hb6.mono HB.size)
    have h1 := Rep.lt (Rep.keep h1 hb6)
    have hP := Rep.lt (Rep.keep hP hb6)
    obtain ⟨tro, tra, trb⟩ := threeT_iff.1 hj.1
    have hlaw := path_law HJ.out path
    obtain ⟨Mo, hMo⟩ : ∃ M, getT o path = M := ⟨_, rfl⟩
    obtain ⟨Ma, hMa⟩ : ∃ M, getT a path = M := ⟨_, rfl⟩
    obtain ⟨Mb, hMb⟩ : ∃ M, getT b path = M := ⟨_, rfl⟩
    obtain ⟨Mt, hMt⟩ : ∃ M, getT t path = M := ⟨_, rfl⟩
    rw [hMo, hMa, hMb, hMt] at hlaw
    obtain ⟨bo, hbo⟩ : ∃ b, Mo.isSome = b := ⟨_, rfl⟩
    obtain ⟨ba, hba⟩ : ∃ b, Ma.isSome = b := ⟨_, rfl⟩
    obtain ⟨bb, hbb⟩ : ∃ b, Mb.isSome = b := ⟨_, rfl⟩
    obtain ⟨bt, hbt⟩ : ∃ b, Mt.isSome = b := ⟨_, rfl⟩
    obtain ⟨xo, hxo⟩ : ∃ x, Mo.getD [] = x := ⟨_, rfl⟩
    obtain ⟨xa, hxa⟩ : ∃ x, Ma.getD [] = x := ⟨_, rfl⟩
    obtain ⟨xb, hxb⟩ : ∃ x, Mb.getD [] = x := ⟨_, rfl⟩
    obtain ⟨xt, hxt⟩ : ∃ x, Mt.getD [] = x := ⟨_, rfl⟩
    have F1 : bo = ba → xo = xa → bt = bb ∧ xt = xb := fun h1 h2 => by
      have := hlaw.1 (opt_ext (by rw [hba, hbo, h1]) (by rw [hxa, hxo, h2]))
      exact ⟨by rw [← hbt, ← hbb, this], by rw [← hxt, ← hxb, this]⟩
    have F2 : bo = bb → xo = xb → bt = ba ∧ xt = xa := fun h1 h2 => by
      have := hlaw.2.1 (opt_ext (by rw [hbb, hbo, h1]) (by rw [hxb, hxo, h2]))
      exact ⟨by rw [← hbt, ← hba, this], by rw [← hxt, ← hxa, this]⟩
    have F3 : ¬ (bo = ba ∧ xo = xa) → ¬ (bo = bb ∧ xo = xb) → bt = ba ∧ ba = bb ∧ ((xa = xb ∧ xt = xa) ∨ (¬ xa = xb ∧ (mText xo xa xb).2 = true ∧ xt = (mText xo xa xb).1)) := fun h1 h2 => by
      have := hlaw.2.2 (fun e => h1 ⟨by rw [← hbo, ← hba, e], by rw [← hxo, ← hxa, e]⟩) (fun e => h2 ⟨by rw [← hbo, ← hbb, e], by rw [← hxo, ← hxb, e]⟩)
      rw [hbt, hba, hbb, hxo, hxa, hxb, hxt] at this
      refine ⟨this.1, this.2.1, ?_⟩
      rcases this.2.2 with ⟨e1, e2⟩ | ⟨e1, e2, e3⟩
      · exact .inl ⟨by rw [← hxa, ← hxb, e1], by rw [← hxt, ← hxa, e2]⟩
      · exact .inr ⟨fun e => e1 (opt_ext (by rw [hba, hbb, this.2.1]) (by rw [hxa, hxb, e])), e2, e3⟩
    have GO := fun (q : World) (v' : Value) (hv : rd (fun b => b < q.heap.size) q [v'] o) (hM : ML q) => implTreeGet v' o path q hv hSo hM ((treeGet_ok tro).trans hMo)
    have GA := fun (q : World) (v' : Value) (hv : rd (fun b => b < q.heap.size) q [v'] a) (hM : ML q) => implTreeGet v' a path q hv hSa hM ((treeGet_ok tra).trans hMa)
    have GB := fun (q : World) (v' : Value) (hv : rd (fun b => b < q.heap.size) q [v'] b) (hM : ML q) => implTreeGet v' b path q hv hSb hM ((treeGet_ok trb).trans hMb)
    have GT := fun (q : World) (v' : Value) (hv : rd (fun b => b < q.heap.size) q [v'] t) (hM : ML q) => implTreeGet v' t path q hv hSt hM ((treeGet_ok hj.2.1).trans hMt)
    rw [hbo, hxo] at GO
    rw [hba, hxa] at GA
    rw [hbb, hxb] at GB
    rw [hbt, hxt] at GT
    have HF1 := Lib.hid F1
    have HF2 := Lib.hid F2
    have HF3 := Lib.hid F3
    clear hlaw hMo hMa hMb hMt hbo hba hbb hbt hxo hxa hxb hxt F1 F2 F3 tro tra trb hj hSt HJ
    go_wp2_with fail
    refine (GO _ _ ho hM).mono ?_
    rintro e w7 ⟨q1, rfl, gO, hb7⟩
    have ho := Rep.lt (Rep.keep ho hb7)
    have ha := Rep.lt (Rep.keep ha hb7)
    have hb := Rep.lt (Rep.keep hb hb7)
    have hM := ML.keep hM hb7
    have HB := HB.trans (hb7.mono HB.size)
    have hP := Rep.lt (Rep.keep hP hb7)
    have gO := Rep.lt gO.rd
    obtain ⟨gOA, gOC, gOV, _⟩ := rd_slice_elim gO
    subst gOV
    go_wp2_with fail
    refine (GA _ _ ha hM).mono ?_
    rintro e w8 ⟨q2, rfl, gA, hb8⟩
    have ho := Rep.lt (Rep.keep ho hb8)
    have ha := Rep.lt (Rep.keep ha hb8)
    have hb := Rep.lt (Rep.keep hb hb8)
    have hM := ML.keep hM hb8
    have HB := HB.trans (hb8.mono HB.size)
    have hP := Rep.lt (Rep.keep hP hb8)
    have gO := Rep.lt (Rep.keep gO hb8)
    have gA := Rep.lt gA.rd
    obtain ⟨gAA, gAC, gAV, _⟩ := rd_slice_elim gA
    subst gAV
    go_wp2_with fail
    refine (GB _ _ hb hM).mono ?_
    rintro e w9 ⟨q3, rfl, gB, hb9⟩
    have ho := Rep.lt (Rep.keep ho hb9)
    have ha := Rep.lt (Rep.keep ha hb9)
    have hb := Rep.lt (Rep.keep hb hb9)
    have hM := ML.keep hM hb9
    have HB := HB.trans (hb9.mono HB.size)
    have hP := Rep.lt (Rep.keep hP hb9)
    have gO := Rep.lt (Rep.keep gO hb9)
    have gA := Rep.lt (Rep.keep gA hb9)
    have gB := Rep.lt gB.rd
    obtain ⟨gBA, gBC, gBV, _⟩ := rd_slice_elim gB
    subst gBV
    go_wp2_with fail
    refine (GT _ _ hP hM).mono ?_
    rintro e w10 ⟨q4, rfl, gT, hb10⟩
    have ho := Rep.lt (Rep.keep ho hb10)
    have ha := Rep.lt (Rep.keep ha hb10)
    have hb := Rep.lt (Rep.keep hb hb10)
    have hM := ML.keep hM hb10
    have HB := HB.trans (hb10.mono HB.size)
    have hP := Rep.lt (Rep.keep hP hb10)
    have gO := Rep.lt (Rep.keep gO hb10)
    have gA := Rep.lt (Rep.keep gA hb10)
    have gB := Rep.lt (Rep.keep gB hb10)
    have gT := Rep.lt gT.rd
    obtain ⟨gTA, gTC, gTV, _⟩ := rd_slice_elim gT
    subst gTV
    clear GO GA GB GT ho ha hb hP
    by_cases e1 : bo = ba
    · have eb1 : (bo == ba) = true := by rw [e1]; simp
      have E1 := Lib.hid e1
      clear e1
      by_cases d1 : xo = xa
      · have D1 := Lib.hid d1
        clear d1
        have kb : (bt == bb) = true := by rw [(HF1.out E1.out D1.out).1]; simp
        go_wp2_with fail
        refine (smTexts_c _ _ xo xa _ gO gA (decide_eq_true D1.out)).mono ?_
        rintro e w11 ⟨rfl, hb11⟩
        have hM := ML.keep hM hb11
        have HB := HB.trans (hb11.mono HB.size)
        have gO := Rep.lt (Rep.keep gO hb11)
        have gA := Rep.lt (Rep.keep gA hb11)
        have gB := Rep.lt (Rep.keep gB hb11)
        have gT := Rep.lt (Rep.keep gT hb11)
        go_wp2_with fail
        refine (smTexts_c _ _ xt xb _ gT gB (decide_eq_true (HF1.out E1.out D1.out).2)).mono ?_
        rintro e w12 ⟨rfl, hb12⟩
        have hM := ML.keep hM hb12
        have HB := HB.trans (hb12.mono HB.size)
        have gO := Rep.lt (Rep.keep gO hb12)
        have gA := Rep.lt (Rep.keep gA hb12)
        have gB := Rep.lt (Rep.keep gB hb12)
        have gT := Rep.lt (Rep.keep gT hb12)
        go_wp2
        go_ret
        exact ⟨rfl, HB⟩
      · have D1 := Lib.hid d1
        clear d1
        go_wp2_with fail
        refine (smTexts_c _ _ xo xa _ gO gA (decide_eq_false D1.out)).mono ?_
        rintro e w13 ⟨rfl, hb13⟩
        have hM := ML.keep hM hb13
        have HB := HB.trans (hb13.mono HB.size)
        have gO := Rep.lt (Rep.keep gO hb13)
        have gA := Rep.lt (Rep.keep gA hb13)
        have gB := Rep.lt (Rep.keep gB hb13)
        have gT := Rep.lt (Rep.keep gT hb13)
        by_cases e2 : bo = bb
        · have eb2 : (bo == bb) = true := by rw [e2]; simp
          have E2 := Lib.hid e2
          clear e2
          by_cases d2 : xo = xb
          · have D2 := Lib.hid d2
            clear d2
            have kb : (bt == ba) = true := by rw [(HF2.out E2.out D2.out).1]; simp
            go_wp2_with fail
            refine (smTexts_c _ _ xo xb _ gO gB (decide_eq_true D2.out)).mono ?_
            rintro e w14 ⟨rfl, hb14⟩
            have hM := ML.keep hM hb14
            have HB := HB.trans (hb14.mono HB.size)
            have gO := Rep.lt (Rep.keep gO hb14)
            have gA := Rep.lt (Rep.keep gA hb14)
            have gB := Rep.lt (Rep.keep gB hb14)
            have gT := Rep.lt (Rep.keep gT hb14)
            go_wp2_with fail
            refine (smTexts_c _ _ xt xa _ gT gA (decide_eq_true (HF2.out E2.out D2.out).2)).mono ?_
            rintro e w15 ⟨rfl, hb15⟩
            have hM := ML.keep hM hb15
            have HB := HB.trans (hb15.mono HB.size)
            have gO := Rep.lt (Rep.keep gO hb15)
            have gA := Rep.lt (Rep.keep gA hb15)
            have gB := Rep.lt (Rep.keep gB hb15)
            have gT := Rep.lt (Rep.keep gT hb15)
            go_wp2
            go_ret
            exact ⟨rfl, HB⟩
          · have D2 := Lib.hid d2
            clear d2
            go_wp2_with fail
            refine (smTexts_c _ _ xo xb _ gO gB (decide_eq_false D2.out)).mono ?_
            rintro e w16 ⟨rfl, hb16⟩
            have hM := ML.keep hM hb16
            have HB := HB.trans (hb16.mono HB.size)
            have gO := Rep.lt (Rep.keep gO hb16)
            have gA := Rep.lt (Rep.keep gA hb16)
            have gB := Rep.lt (Rep.keep gB hb16)
            have gT := Rep.lt (Rep.keep gT hb16)
            obtain ⟨k1, k2, k3⟩ := HF3.out (fun e => D1.out e.2) (fun e => D2.out e.2)
            have kb1 : (bt == ba) = true := by rw [k1]; simp
            have kb2 : (ba == bb) = true := by rw [k2]; simp
            have K3 := Lib.hid k3
            clear k1 k2 k3
            go_wp2_with fail
            refine (implMergeText _ _ _ xo xa xb _ gO gA gB).mono ?_
            rintro e w17 ⟨q5, rfl, gM, hb17⟩
            have hM := ML.keep hM hb17
            have HB := HB.trans (hb17.mono HB.size)
            have gO := Rep.lt (Rep.keep gO hb17)
            have gA := Rep.lt (Rep.keep gA hb17)
            have gB := Rep.lt (Rep.keep gB hb17)
            have gT := Rep.lt (Rep.keep gT hb17)
            obtain ⟨MT, hMT⟩ : ∃ M, mText xo xa xb = M := ⟨_, rfl⟩
            rw [hMT] at gM K3 ⊢
            obtain ⟨xm, bm⟩ := MT
            simp only at gM K3 ⊢
            clear hMT
            have gM := Rep.lt gM.rd
            obtain ⟨gMA, gMC, gMV, _⟩ := rd_slice_elim gM
            subst gMV
            rcases K3.out with ⟨j1, j2⟩ | ⟨j1, j2, j3⟩
            · have J1 := Lib.hid j1
              have J2 := Lib.hid j2
              clear j1 j2 K3
              go_wp2_with fail
              refine (smTexts_c _ _ xa xb _ gA gB (decide_eq_true J1.out)).mono ?_
              rintro e w18 ⟨rfl, hb18⟩
              have hM := ML.keep hM hb18
              have HB := HB.trans (hb18.mono HB.size)
              have gO := Rep.lt (Rep.keep gO hb18)
              have gA := Rep.lt (Rep.keep gA hb18)
              have gB := Rep.lt (Rep.keep gB hb18)
              have gT := Rep.lt (Rep.keep gT hb18)
              have gM := Rep.lt (Rep.keep gM hb18)
              go_wp2_with fail
              refine (smTexts_c _ _ xt xa _ gT gA (decide_eq_true J2.out)).mono ?_
              rintro e w19 ⟨rfl, hb19⟩
              have hM := ML.keep hM hb19
              have HB := HB.trans (hb19.mono HB.size)
              have gO := Rep.lt (Rep.keep gO hb19)
              have gA := Rep.lt (Rep.keep gA hb19)
              have gB := Rep.lt (Rep.keep gB hb19)
              have gT := Rep.lt (Rep.keep gT hb19)
              have gM := Rep.lt (Rep.keep gM hb19)
              go_wp2
              go_ret
              exact ⟨rfl, HB⟩
            · have J1 := Lib.hid j1
              have J3 := Lib.hid j3
              subst j2
              clear j1 j3 K3
              go_wp2_with fail
              refine (smTexts_c _ _ xa xb _ gA gB (decide_eq_false J1.out)).mono ?_
              rintro e w20 ⟨rfl, hb20⟩
              have hM := ML.keep hM hb20
              have HB := HB.trans (hb20.mono HB.size)
              have gO := Rep.lt (Rep.keep gO hb20)
              have gA := Rep.lt (Rep.keep gA hb20)
              have gB := Rep.lt (Rep.keep gB hb20)
              have gT := Rep.lt (Rep.keep gT hb20)
              have gM := Rep.lt (Rep.keep gM hb20)
              go_wp2_with fail
              refine (smTexts_c _ _ xt xm _ gT gM (decide_eq_true J3.out)).mono ?_
              rintro e w21 ⟨rfl, hb21⟩
              have hM := ML.keep hM hb21
              have HB := HB.trans (hb21.mono HB.size)
              have gO := Rep.lt (Rep.keep gO hb21)
              have gA := Rep.lt (Rep.keep gA hb21)
              have gB := Rep.lt (Rep.keep gB hb21)
              have gT := Rep.lt (Rep.keep gT hb21)
              have gM := Rep.lt (Rep.keep gM hb21)
              go_wp2
              go_ret
              exact ⟨rfl, HB⟩
        · have eb2 : (bo == bb) = false := by simpa using e2
          have E2 := Lib.hid e2
          clear e2
          obtain ⟨k1, k2, k3⟩ := HF3.out (fun e => D1.out e.2) (fun e => E2.out e.1)
          have kb1 : (bt == ba) = true := by rw [k1]; simp
          have kb2 : (ba == bb) = true := by rw [k2]; simp
          have K3 := Lib.hid k3
          clear k1 k2 k3
          go_wp2_with fail
          refine (implMergeText _ _ _ xo xa xb _ gO gA gB).mono ?_
          rintro e w22 ⟨q5, rfl, gM, hb22⟩
          have hM := ML.keep hM hb22
          have HB := HB.trans (hb22.mono HB.size)
          have gO := Rep.lt (Rep.keep gO hb22)
          have gA := Rep.lt (Rep.keep gA hb22)
          have gB := Rep.lt (Rep.keep gB hb22)
          have gT := Rep.lt (Rep.keep gT hb22)
          obtain ⟨MT, hMT⟩ : ∃ M, mText xo xa xb = M := ⟨_, rfl⟩
          rw [hMT] at gM K3 ⊢
          obtain ⟨xm, bm⟩ := MT
          simp only at gM K3 ⊢
          clear hMT
          have gM := Rep.lt gM.rd
          obtain ⟨gMA, gMC, gMV, _⟩ := rd_slice_elim gM
          subst gMV
          rcases K3.out with ⟨j1, j2⟩ | ⟨j1, j2, j3⟩
          · have J1 := Lib.hid j1
            have J2 := Lib.hid j2
            clear j1 j2 K3
            go_wp2_with fail
            refine (smTexts_c _ _ xa xb _ gA gB (decide_eq_true J1.out)).mono ?_
            rintro e w23 ⟨rfl, hb23⟩
            have hM := ML.keep hM hb23
            have HB := HB.trans (hb23.mono HB.size)
            have gO := Rep.lt (Rep.keep gO hb23)
            have gA := Rep.lt (Rep.keep gA hb23)
            have gB := Rep.lt (Rep.keep gB hb23)
            have gT := Rep.lt (Rep.keep gT hb23)
            have gM := Rep.lt (Rep.keep gM hb23)
            go_wp2_with fail
            refine (smTexts_c _ _ xt xa _ gT gA (decide_eq_true J2.out)).mono ?_
            rintro e w24 ⟨rfl, hb24⟩
            have hM := ML.keep hM hb24
            have HB := HB.trans (hb24.mono HB.size)
            have gO := Rep.lt (Rep.keep gO hb24)
            have gA := Rep.lt (Rep.keep gA hb24)
            have gB := Rep.lt (Rep.keep gB hb24)
            have gT := Rep.lt (Rep.keep gT hb24)
            have gM := Rep.lt (Rep.keep gM hb24)
            go_wp2
            go_ret
            exact ⟨rfl, HB⟩
          · have J1 := Lib.hid j1
            have J3 := Lib.hid j3
            subst j2
            clear j1 j3 K3
            go_wp2_with fail
            refine (smTexts_c _ _ xa xb _ gA gB (decide_eq_false J1.out)).mono ?_
            rintro e w25 ⟨rfl, hb25⟩
            have hM := ML.keep hM hb25
            have HB := HB.trans (hb25.mono HB.size)
            have gO := Rep.lt (Rep.keep gO hb25)
            have gA := Rep.lt (Rep.keep gA hb25)
            have gB := Rep.lt (Rep.keep gB hb25)
            have gT := Rep.lt (Rep.keep gT hb25)
            have gM := Rep.lt (Rep.keep gM hb25)
            go_wp2_with fail
            refine (smTexts_c _ _ xt xm _ gT gM (decide_eq_true J3.out)).mono ?_
            rintro e w26 ⟨rfl, hb26⟩
            have hM := ML.keep hM hb26
            have HB := HB.trans (hb26.mono HB.size)
            have gO := Rep.lt (Rep.keep gO hb26)
            have gA := Rep.lt (Rep.keep gA hb26)
            have gB := Rep.lt (Rep.keep gB hb26)
            have gT := Rep.lt (Rep.keep gT hb26)
            have gM := Rep.lt (Rep.keep gM hb26)
            go_wp2
            go_ret
            exact ⟨rfl, HB⟩
    · have eb1 : (bo == ba) = false := by simpa using e1
      have E1 := Lib.hid e1
      clear e1
      by_cases e2 : bo = bb
      · have eb2 : (bo == bb) = true := by rw [e2]; simp
        have E2 := Lib.hid e2
        clear e2
        by_cases d2 : xo = xb
        · have D2 := Lib.hid d2
          clear d2
          have kb : (bt == ba) = true := by rw [(HF2.out E2.out D2.out).1]; simp
          go_wp2_with fail
          refine (smTexts_c _ _ xo xb _ gO gB (decide_eq_true D2.out)).mono ?_
          rintro e w27 ⟨rfl, hb27⟩
          have hM := ML.keep hM hb27
          have HB := HB.trans (hb27.mono HB.size)
          have gO := Rep.lt (Rep.keep gO hb27)
          have gA := Rep.lt (Rep.keep gA hb27)
          have gB := Rep.lt (Rep.keep gB hb27)
          have gT := Rep.lt (Rep.keep gT hb27)
          go_wp2_with fail
          refine (smTexts_c _ _ xt xa _ gT gA (decide_eq_true (HF2.out E2.out D2.out).2)).mono ?_
          rintro e w28 ⟨rfl, hb28⟩
          have hM := ML.keep hM hb28
          have HB := HB.trans (hb28.mono HB.size)
          have gO := Rep.lt (Rep.keep gO hb28)
          have gA := Rep.lt (Rep.keep gA hb28)
          have gB := Rep.lt (Rep.keep gB hb28)
          have gT := Rep.lt (Rep.keep gT hb28)
          go_wp2
          go_ret
          exact ⟨rfl, HB⟩
        · have D2 := Lib.hid d2
          clear d2
          go_wp2_with fail
          refine (smTexts_c _ _ xo xb _ gO gB (decide_eq_false D2.out)).mono ?_
          rintro e w29 ⟨rfl, hb29⟩
          have hM := ML.keep hM hb29
          have HB := HB.trans (hb29.mono HB.size)
          have gO := Rep.lt (Rep.keep gO hb29)
          have gA := Rep.lt (Rep.keep gA hb29)
          have gB := Rep.lt (Rep.keep gB hb29)
          have gT := Rep.lt (Rep.keep gT hb29)
          obtain ⟨k1, k2, k3⟩ := HF3.out (fun e => E1.out e.1) (fun e => D2.out e.2)
          have kb1 : (bt == ba) = true := by rw [k1]; simp
          have kb2 : (ba == bb) = true := by rw [k2]; simp
          have K3 := Lib.hid k3
          clear k1 k2 k3
          go_wp2_with fail
          refine (implMergeText _ _ _ xo xa xb _ gO gA gB).mono ?_
          rintro e w30 ⟨q5, rfl, gM, hb30⟩
          have hM := ML.keep hM hb30
          have HB := HB.trans (hb30.mono HB.size)
          have gO := Rep.lt (Rep.keep gO hb30)
          have gA := Rep.lt (Rep.keep gA hb30)
          have gB := Rep.lt (Rep.keep gB hb30)
          have gT := Rep.lt (Rep.keep gT hb30)
          obtain ⟨MT, hMT⟩ : ∃ M, mText xo xa xb = M := ⟨_, rfl⟩
          rw [hMT] at gM K3 ⊢
          obtain ⟨xm, bm⟩ := MT
          simp only at gM K3 ⊢
          clear hMT
          have gM := Rep.lt gM.rd
          obtain ⟨gMA, gMC, gMV, _⟩ := rd_slice_elim gM
          subst gMV
          rcases K3.out with ⟨j1, j2⟩ | ⟨j1, j2, j3⟩
          · have J1 := Lib.hid j1
            have J2 := Lib.hid j2
            clear j1 j2 K3
            go_wp2_with fail
            refine (smTexts_c _ _ xa xb _ gA gB (decide_eq_true J1.out)).mono ?_
            rintro e w31 ⟨rfl, hb31⟩
            have hM := ML.keep hM hb31
            have HB := HB.trans (hb31.mono HB.size)
            have gO := Rep.lt (Rep.keep gO hb31)
            have gA := Rep.lt (Rep.keep gA hb31)
            have gB := Rep.lt (Rep.keep gB hb31)
            have gT := Rep.lt (Rep.keep gT hb31)
            have gM := Rep.lt (Rep.keep gM hb31)
            go_wp2_with fail
            refine (smTexts_c _ _ xt xa _ gT gA (decide_eq_true J2.out)).mono ?_
            rintro e w32 ⟨rfl, hb32⟩
            have hM := ML.keep hM hb32
            have HB := HB.trans (hb32.mono HB.size)
            have gO := Rep.lt (Rep.keep gO hb32)
            have gA := Rep.lt (Rep.keep gA hb32)
            have gB := Rep.lt (Rep.keep gB hb32)
            have gT := Rep.lt (Rep.keep gT hb32)
            have gM := Rep.lt (Rep.keep gM hb32)
            go_wp2
            go_ret
            exact ⟨rfl, HB⟩
          · have J1 := Lib.hid j1
            have J3 := Lib.hid j3
            subst j2
            clear j1 j3 K3
            go_wp2_with fail
            refine (smTexts_c _ _ xa xb _ gA gB (decide_eq_false J1.out)).mono ?_
            rintro e w33 ⟨rfl, hb33⟩
            have hM := ML.keep hM hb33
            have HB := HB.trans (hb33.mono HB.size)
            have gO := Rep.lt (Rep.keep gO hb33)
            have gA := Rep.lt (Rep.keep gA hb33)
            have gB := Rep.lt (Rep.keep gB hb33)
            have gT := Rep.lt (Rep.keep gT hb33)
            have gM := Rep.lt (Rep.keep gM hb33)
            go_wp2_with fail
            refine (smTexts_c _ _ xt xm _ gT gM (decide_eq_true J3.out)).mono ?_
            rintro e w34 ⟨rfl, hb34⟩
            have hM := ML.keep hM hb34
            have HB := HB.trans (hb34.mono HB.size)
            have gO := Rep.lt (Rep.keep gO hb34)
            have gA := Rep.lt (Rep.keep gA hb34)
            have gB := Rep.lt (Rep.keep gB hb34)
            have gT := Rep.lt (Rep.keep gT hb34)
            have gM := Rep.lt (Rep.keep gM hb34)
            go_wp2
            go_ret
            exact ⟨rfl, HB⟩
      · have eb2 : (bo == bb) = false := by simpa using e2
        have E2 := Lib.hid e2
        clear e2
        obtain ⟨k1, k2, k3⟩ := HF3.out (fun e => E1.out e.1) (fun e => E2.out e.1)
        have kb1 : (bt == ba) = true := by rw [k1]; simp
        have kb2 : (ba == bb) = true := by rw [k2]; simp
        have K3 := Lib.hid k3
        clear k1 k2 k3
        go_wp2_with fail
        refine (implMergeText _ _ _ xo xa xb _ gO gA gB).mono ?_
        rintro e w35 ⟨q5, rfl, gM, hb35⟩
        have hM := ML.keep hM hb35
        have HB := HB.trans (hb35.mono HB.size)
        have gO := Rep.lt (Rep.keep gO hb35)
        have gA := Rep.lt (Rep.keep gA hb35)
        have gB := Rep.lt (Rep.keep gB hb35)
        have gT := Rep.lt (Rep.keep gT hb35)
        obtain ⟨MT, hMT⟩ : ∃ M, mText xo xa xb = M := ⟨_, rfl⟩
        rw [hMT] at gM K3 ⊢
        obtain ⟨xm, bm⟩ := MT
        simp only at gM K3 ⊢
        clear hMT
        have gM := Rep.lt gM.rd
        obtain ⟨gMA, gMC, gMV, _⟩ := rd_slice_elim gM
        subst gMV
        rcases K3.out with ⟨j1, j2⟩ | ⟨j1, j2, j3⟩
        · have J1 := Lib.hid j1
          have J2 := Lib.hid j2
          clear j1 j2 K3
          go_wp2_with fail
          refine (smTexts_c _ _ xa xb _ gA gB (decide_eq_true J1.out)).mono ?_
          rintro e w36 ⟨rfl, hb36⟩
          have hM := ML.keep hM hb36
          have HB := HB.trans (hb36.mono HB.size)
          have gO := Rep.lt (Rep.keep gO hb36)
          have gA := Rep.lt (Rep.keep gA hb36)
          have gB := Rep.lt (Rep.keep gB hb36)
          have gT := Rep.lt (Rep.keep gT hb36)
          have gM := Rep.lt (Rep.keep gM hb36)
          go_wp2_with fail
          refine (smTexts_c _ _ xt xa _ gT gA (decide_eq_true J2.out)).mono ?_
          rintro e w37 ⟨rfl, hb37⟩
          have hM := ML.keep hM hb37
          have HB := HB.trans (hb37.mono HB.size)
          have gO := Rep.lt (Rep.keep gO hb37)
          have gA := Rep.lt (Rep.keep gA hb37)
          have gB := Rep.lt (Rep.keep gB hb37)
          have gT := Rep.lt (Rep.keep gT hb37)
          have gM := Rep.lt (Rep.keep gM hb37)
          go_wp2
          go_ret
          exact ⟨rfl, HB⟩
        · have J1 := Lib.hid j1
          have J3 := Lib.hid j3
          subst j2
          clear j1 j3 K3
          go_wp2_with fail
          refine (smTexts_c _ _ xa xb _ gA gB (decide_eq_false J1.out)).mono ?_
          rintro e w38 ⟨rfl, hb38⟩
          have hM := ML.keep hM hb38
          have HB := HB.trans (hb38.mono HB.size)
          have gO := Rep.lt (Rep.keep gO hb38)
          have gA := Rep.lt (Rep.keep gA hb38)
          have gB := Rep.lt (Rep.keep gB hb38)
          have gT := Rep.lt (Rep.keep gT hb38)
          have gM := Rep.lt (Rep.keep gM hb38)
          go_wp2_with fail
          refine (smTexts_c _ _ xt xm _ gT gM (decide_eq_true J3.out)).mono ?_
          rintro e w39 ⟨rfl, hb39⟩
          have hM := ML.keep hM hb39
          have HB := HB.trans (hb39.mono HB.size)
          have gO := Rep.lt (Rep.keep gO hb39)
          have gA := Rep.lt (Rep.keep gA hb39)
          have gB := Rep.lt (Rep.keep gB hb39)
          have gT := Rep.lt (Rep.keep gT hb39)
          have gM := Rep.lt (Rep.keep gM hb39)
          go_wp2
          go_ret
          exact ⟨rfl, HB⟩
end Go.Proofs.YtegknjcifmenpaaGreatDoor
