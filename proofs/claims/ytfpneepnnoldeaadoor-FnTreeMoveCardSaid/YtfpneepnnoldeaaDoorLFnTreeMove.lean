/-
  The walk of a law: FnTreeMove.
-/
import Derived.Test.YtfpneepnnoldeaaDoorDrawM
import Derived.Test.YtfpneepnnoldeaaDoorWMoveI
import Derived.Test.YtfpneepnnoldeaaDoorWMoveS
import Derived.Test.YtfpneepnnoldeaaDoorWTreeG
import Derived.Test.YtfpneepnnoldeaaDoorVSM
import Derived.Test.YtfpneepnnoldeaaDoorPlTM
set_option linter.unusedVariables false
namespace Go.Proofs.YtfpneepnnoldeaaDoor
open Go.RowKit Go.Vc
open Go.Vc.Rep (rd)
open Go.Vc.Own (own)

set_option maxHeartbeats 8000000 in
set_option maxRecDepth 100000 in
theorem lawFnTreeMove (v0 : Value) (bs : List UInt8) (w : World) (h0 : rd (fun b => b < w.heap.size) w [v0] bs) (hM : ML w) :
    Calls Tryd.prog 7 #[v0] w fun e w' => e = .returned (.bool true) ∧ Below w.heap.size w w' := by
  obtain ⟨a0, c0, rfl, hs0⟩ := rd_slice_elim h0
  have hle := hs0.le
  by_cases hbig : 1048576 < bs.length
  · go_enter Tryd.func7, Tryd.ntmps7
    go_wp2
    go_ret
    exact ⟨rfl, Below.refl _ _⟩
  go_enter Tryd.func7, Tryd.ntmps7
  go_wp2_with fail
  refine (drawTreeMove_any _ bs w h0 (by omega)).mono ?_
  rintro e w0 ⟨v, t, path, dst, rfl, hSm, hz, hzd, ht, HB⟩
  have ht := Rep.lt ht
  have hM := hM.keep HB
  have hS := hSm.short
  have hp1 : path.size ≤ 1048576 := by omega
  have hd1 : dst.size ≤ 1048576 := by omega
  have hZ : ∀ f, f ∈ t → f.path.size ≤ 1048576 := fun f hf => by have := (hSm.2 f hf).1; omega
  have h100 : ∀ f, f ∈ t → f.path.size ≤ 100 := fun f hf => (hSm.2 f hf).1
  obtain ⟨x, hx⟩ : ∃ x, treeMove t path dst = x := ⟨_, rfl⟩
  obtain ⟨b, hb⟩ : ∃ b, moveB t path dst = b := ⟨_, rfl⟩
  have HX := Lib.hid hx
  have HBB := Lib.hid hb
  clear h0 hs0 hle hbig hSm hx hb
  obtain ⟨htA, htC, htV, _⟩ := rd_slice_elim ht
  subst htV
  go_wp2_with fail
  refine (implTreeMove _ t path dst _ ht hp1 hd1 hZ hM HBB.out HX.out).mono ?_
  rintro e w1 ⟨p, rfl, hP, hb1⟩
  have ht := Rep.lt (Rep.keep ht hb1)
  have hM := ML.keep hM hb1
  have HB := HB.trans (hb1.mono HB.size)
  have hP := Rep.lt hP.rd
  obtain ⟨hPA, hPC, hPV, _⟩ := rd_slice_elim hP
  subst hPV
  go_wp2_with fail
  refine (specTreeMove _ t path dst _ ht hp1 hd1 hZ HBB.out HX.out).mono ?_
  rintro e w2 ⟨q, rfl, hQ, hb2⟩
  have ht := Rep.lt (Rep.keep ht hb2)
  have hM := ML.keep hM hb2
  have HB := HB.trans (hb2.mono HB.size)
  have hP := Rep.lt (Rep.keep hP hb2)
  have hQ := Rep.lt hQ
  obtain ⟨hQA, hQC, hQV, _⟩ := rd_slice_elim hQ
  subst hQV
  have hbb : (b != b) = false := by simp
  have hbe : (b == b) = true := by simp
  go_wp2_with fail
  refine (smTree_is _ _ x x _ hP hQ (decide_eq_true rfl)).mono ?_
  rintro e w3 ⟨rfl, hb3⟩
  have ht := Rep.lt (Rep.keep ht hb3)
  have hM := ML.keep hM hb3
  have HB := HB.trans (hb3.mono HB.size)
  have hP := Rep.lt (Rep.keep hP hb3)
  have hQ := Rep.lt (Rep.keep hQ hb3)
  cases hT : treeB t with
  | false =>
    go_wp2_with fail
    refine (treeOk_is _ t _ ht hS hM hT).mono ?_
    rintro e w4 ⟨rfl, hb4⟩
    have ht := Rep.lt (Rep.keep ht hb4)
    have hM := ML.keep hM hb4
    have HB := HB.trans (hb4.mono HB.size)
    have hP := Rep.lt (Rep.keep hP hb4)
    have hQ := Rep.lt (Rep.keep hQ hb4)
    go_wp2_with fail
    refine (smTree_is _ _ x x _ hP hQ (decide_eq_true rfl)).mono ?_
    rintro e w5 ⟨rfl, hb5⟩
    have ht := Rep.lt (Rep.keep ht hb5)
    have hM := ML.keep hM hb5
    have HB := HB.trans (hb5.mono HB.size)
    have hP := Rep.lt (Rep.keep hP hb5)
    have hQ := Rep.lt (Rep.keep hQ hb5)
    go_wp2
    go_ret
    exact ⟨rfl, HB⟩
  | true =>
    go_wp2_with fail
    refine (treeOk_is _ t _ ht hS hM hT).mono ?_
    rintro e w6 ⟨rfl, hb6⟩
    have ht := Rep.lt (Rep.keep ht hb6)
    have hM := ML.keep hM hb6
    have HB := HB.trans (hb6.mono HB.size)
    have hP := Rep.lt (Rep.keep hP hb6)
    have hQ := Rep.lt (Rep.keep hQ hb6)
    cases b with
    | false =>
      have hxt : decide (x = t) = true := decide_eq_true (by rw [← HX.out, move_ok hT, HBB.out]; rfl)
      go_wp2_with fail
      refine (smTree_is _ _ x t _ hP ht hxt).mono ?_
      rintro e w7 ⟨rfl, hb7⟩
      have ht := Rep.lt (Rep.keep ht hb7)
      have hM := ML.keep hM hb7
      have HB := HB.trans (hb7.mono HB.size)
      have hP := Rep.lt (Rep.keep hP hb7)
      go_wp2
      go_ret
      exact ⟨rfl, HB⟩
    | true =>
      obtain ⟨hTx, hlx, hpos, hat, hmx, hback⟩ := move_law hT HBB.out HX.out
      have h200 : ∀ f, f ∈ x → f.path.size ≤ 200 := fun f hf => by
        obtain ⟨g, hg, rfl | ⟨hp, rfl⟩⟩ := hmx f hf
        · have := h100 f hg; omega
        · have h1 := h100 g hg
          show (mvP path dst g.path).size ≤ 200
          rw [mvP_size (isAt_size hp)]
          omega
      have hSx : ∀ f, f ∈ x → ShortS f.path := fun f hf => short_of (by have := h200 f hf; omega)
      have hZx : ∀ f, f ∈ x → f.path.size ≤ 1048576 := fun f hf => by have := h200 f hf; omega
      obtain ⟨l, hl⟩ : ∃ l, treeUnder t path = l := ⟨_, rfl⟩
      obtain ⟨ud, hud⟩ : ∃ ud, treeUnder t dst = ud := ⟨_, rfl⟩
      have IU := fun (q : World) (v' : Value) (hv : rd (fun b => b < q.heap.size) q [v'] t) (hM : ML q) => implTreeUnder v' t path q hv hp1 hS hM
      have ID := fun (q : World) (v' : Value) (hv : rd (fun b => b < q.heap.size) q [v'] t) (hM : ML q) => implTreeUnder v' t dst q hv hd1 hS hM
      rw [hl] at IU hpos hat
      rw [hud] at ID hback
      have hlen8 : l.length ≤ 8 := by rw [← hl]; exact treeUnder_len t path
      obtain ⟨z, hz9⟩ : ∃ z, treeMove x dst path = z := ⟨_, rfl⟩
      obtain ⟨bk, hbk⟩ : ∃ bk, moveB x dst path = bk := ⟨_, rfl⟩
      rw [hz9, hbk] at hback
      have HZ := Lib.hid hz9
      have HBK := Lib.hid hbk
      have HAT := Lib.hid hat
      have HBA := Lib.hid hback
      have HLX := Lib.hid hlx
      clear hbb hbe hz9 hbk hat hback hlx hl hud hmx h200
      go_wp2_with fail
      refine (IU _ _ ht hM).mono ?_
      rintro e w8 ⟨lv, rfl, hL, hb8⟩
      have ht := Rep.lt (Rep.keep ht hb8)
      have hM := ML.keep hM hb8
      have HB := HB.trans (hb8.mono HB.size)
      have hP := Rep.lt (Rep.keep hP hb8)
      have hL := Rep.lt hL.rd
      obtain ⟨hLA, hLC, hLV, _⟩ := rd_slice_elim hL
      subst hLV
      have hls := (rd_slice_of hL).2
      have hsz := HB.size
      clear IU
      go_wp2
      go_loopw [11] (fun i wr => (∃ k : Nat, k ≤ l.length ∧ i = .int .i64 k) ∧ Below w8.heap.size w8 wr) (fun i _ => l.length - (intOf i).toNat)
      case atStart => exact ⟨⟨0, by omega, rfl⟩, Below.refl _ _⟩
      case round =>
        obtain ⟨⟨k, hk, rfl⟩, hbr⟩ := hrel
        have hsr := hbr.size
        have hM := hM.keep hbr
        have ht := Rep.lt (Rep.keep ht hbr)
        have hP := Rep.lt (Rep.keep hP hbr)
        by_cases hlt : k < l.length
        · obtain ⟨tx, hg1, hg2, hps, f, hf, hfp⟩ := HAT.out k hlt
          obtain ⟨g, off, he, hc, hzs⟩ := (hls.keep hbr).str hlt
          obtain ⟨s, hs⟩ : ∃ s, s = l[k] := ⟨_, rfl⟩
          rw [← hs] at hg1 hg2 hps hfp hc hzs
          have hs100 : s.size ≤ 100 := by rw [← hfp]; exact h100 f hf
          have hno : ¬ 9223372036854775807 < dst.size + (s.extract path.size s.size).size := by
            have : (s.extract path.size s.size).size = s.size - path.size := by simp
            omega
          have hno2 : ¬ 9223372036854775807 < dst.size + (s.size - path.size) := by omega
          subst he
          clear hs hf hfp
          go_wp2_with fail
          refine (implTreeGet _ t s _ ht hS hM hg1).mono ?_
          rintro e w1 ⟨g1, rfl, hG1, hb1⟩
          have hbr := hbr.trans (hb1.mono hsr)
          have hsr := hbr.size
          have hc := keepc hc hb1
          have ht := Rep.lt (Rep.keep ht hb1)
          have hP := Rep.lt (Rep.keep hP hb1)
          have hM := hM.keep hb1
          have hG1 := Rep.lt hG1.rd
          go_wp2_with fail
          refine (implTreeGet _ x (mvP path dst s) _ hP hSx hM hg2).mono ?_
          rintro e w2 ⟨g2, rfl, hG2, hb2⟩
          have hbr := hbr.trans (hb2.mono hsr)
          have hsr := hbr.size
          have hG1 := Rep.lt (Rep.keep hG1 hb2)
          go_wp2_with fail
          refine (smTexts_c _ _ _ _ _ hG1 hG2.rd (decide_eq_true rfl)).mono ?_
          rintro e w3 ⟨rfl, hb3⟩
          have hbr := hbr.trans (hb3.mono hsr)
          go_wp2
          go_roundw
          case rel => exact ⟨⟨k + 1, by omega, by go_num⟩, hbr⟩
          case measure => simp [intOf] <;> omega
        · have HB := HB.trans (hbr.mono hsz)
          clear hbr hsr
          go_wp2_with fail
          refine (implTreeMove _ x dst path _ hP hd1 hp1 hZx hM HBK.out HZ.out).mono ?_
          rintro e w9 ⟨y, rfl, hY, hb9⟩
          have ht := Rep.lt (Rep.keep ht hb9)
          have hP := Rep.lt (Rep.keep hP hb9)
          have hM := ML.keep hM hb9
          have HB := HB.trans (hb9.mono HB.size)
          have hY := Rep.lt hY.rd
          obtain ⟨hYA, hYC, hYV, _⟩ := rd_slice_elim hY
          subst hYV
          go_wp2_with fail
          refine (ID _ _ ht hM).mono ?_
          rintro e w10 ⟨u2, rfl, hU2, hb10⟩
          have ht := Rep.lt (Rep.keep ht hb10)
          have hP := Rep.lt (Rep.keep hP hb10)
          have hM := ML.keep hM hb10
          have HB := HB.trans (hb10.mono HB.size)
          have hY := Rep.lt (Rep.keep hY hb10)
          obtain ⟨aU, cU, hUV, _⟩ := hU2.shape
          subst hUV
          clear hU2 ID
          have hlen : ((x.length : Int) == (t.length : Int)) = true := by rw [HLX.out]; simp
          have hpos' : decide (0 < l.length) = true := decide_eq_true hpos
          by_cases hu0 : ud.length = 0
          · obtain ⟨hb9, hz8⟩ := HBA.out (List.eq_nil_of_length_eq_zero hu0)
            have hu9 : ((ud.length : Int) == 0) = true := by rw [hu0]; rfl
            have hzt : decide (z = t) = true := decide_eq_true hz8
            clear hu0 hz8
            subst hb9
            go_wp2_with fail
            refine (treeOk_is _ x _ hP hSx hM hTx).mono ?_
            rintro e w11 ⟨rfl, hb11⟩
            have ht := Rep.lt (Rep.keep ht hb11)
            have hP := Rep.lt (Rep.keep hP hb11)
            have hM := ML.keep hM hb11
            have HB := HB.trans (hb11.mono HB.size)
            have hY := Rep.lt (Rep.keep hY hb11)
            go_wp2_with fail
            refine (smTree_is _ _ z t _ hY ht hzt).mono ?_
            rintro e w12 ⟨rfl, hb12⟩
            have ht := Rep.lt (Rep.keep ht hb12)
            have hP := Rep.lt (Rep.keep hP hb12)
            have hM := ML.keep hM hb12
            have HB := HB.trans (hb12.mono HB.size)
            have hY := Rep.lt (Rep.keep hY hb12)
            go_wp2
            go_ret
            exact ⟨rfl, HB⟩
          · have hu9 : ((ud.length : Int) == 0) = false := by rw [beq_eq_false_iff_ne]; omega
            clear hu0
            go_wp2_with fail
            refine (treeOk_is _ x _ hP hSx hM hTx).mono ?_
            rintro e w13 ⟨rfl, hb13⟩
            have ht := Rep.lt (Rep.keep ht hb13)
            have hP := Rep.lt (Rep.keep hP hb13)
            have hM := ML.keep hM hb13
            have HB := HB.trans (hb13.mono HB.size)
            have hY := Rep.lt (Rep.keep hY hb13)
            go_wp2
            go_ret
            exact ⟨rfl, HB⟩
end Go.Proofs.YtfpneepnnoldeaaDoor
