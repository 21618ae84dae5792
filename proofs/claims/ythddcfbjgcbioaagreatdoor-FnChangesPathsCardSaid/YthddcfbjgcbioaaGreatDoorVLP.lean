/-
  The walk of a law: FnChangesPaths. / Closed facts of the row of the law 'FnChangesPaths'.
-/
import Derived.Test.YthddcfbjgcbioaaGreatDoorVCP
import Derived.Test.YthddcfbjgcbioaaGreatDoorWChD
import Derived.Test.YthddcfbjgcbioaaGreatDoorV2P
import Derived.Test.YthddcfbjgcbioaaGreatDoorVSM
import Derived.Test.YthddcfbjgcbioaaGreatDoorVD1
import Derived.Test.YthddcfbjgcbioaaGreatDoorVPB
import Derived.Test.YthddcfbjgcbioaaGreatDoorVZ
set_option linter.unusedVariables false
namespace Go.Proofs.YthddcfbjgcbioaaGreatDoor
open Go.RowKit Go.Vc
open Go.Vc.Rep (rd)
open Go.Vc.Own (own)
set_option maxHeartbeats 8000000 in
set_option maxRecDepth 100000 in
theorem lawFnChangesPaths (v0 : Value) (bs : List UInt8) (w : World) (h0 : rd (fun b => b < w.heap.size) w [v0] bs) (hM : ML w) :
    Calls Tryz.prog 3 #[v0] w fun e w' => e = .returned (.bool true) ∧ Below w.heap.size w w' := by
  obtain ⟨a0, c0, rfl, hs0⟩ := rd_slice_elim h0
  have hle := hs0.le
  by_cases hbig : 1048576 < bs.length
  · go_enter Tryz.func3, Tryz.ntmps3
    go_wp2
    go_ret
    exact ⟨rfl, Below.refl _ _⟩
  go_enter Tryz.func3, Tryz.ntmps3
  go_wp2_with fail
  refine (drawChangesDo_any _ bs w h0 (by omega)).mono ?_
  rintro e w0 ⟨v, u, t, l, rfl, hSt9, hSl, ht, hl, HB⟩
  have ht := Rep.lt ht
  have hl := Rep.lt hl
  have hM := hM.keep HB
  have hSt : ∀ f, f ∈ t → ShortS f.path := fun f hf => short_of (by have := (hSt9.2 f hf).1; omega)
  clear h0 hs0 hle hbig hSt9
  obtain ⟨htA, htC, htV, _⟩ := rd_slice_elim ht
  subst htV
  obtain ⟨hlA, hlC, hlV, _⟩ := rd_slice_elim hl
  subst hlV
  obtain ⟨x, ok, hdo⟩ : ∃ x ok, changesDo t l = (x, ok) := ⟨_, _, rfl⟩
  have ID := fun (q : World) (v' u' : Value) (h1 : rd (fun b => b < q.heap.size) q [v'] t) (h2 : rd (fun b => b < q.heap.size) q [u'] l) (hM : ML q) => implChangesDo v' u' t l q h1 h2 hSt hSl hM
  rw [hdo] at ID
  simp only at ID
  have HD := Lib.hid hdo
  obtain ⟨ps, hps⟩ : ∃ ps, changesPathsI l = ps := ⟨_, rfl⟩
  obtain ⟨kb, hkb⟩ : ∃ kb, changesB l = kb := ⟨_, rfl⟩
  have IP := fun (q : World) (v' : Value) (h : rd (fun b => b < q.heap.size) q [v'] l) (hM : ML q) => changesPaths_any v' l q h hSl hM
  have SP := fun (q : World) (v' : Value) (h : rd (fun b => b < q.heap.size) q [v'] l) => specChangesPaths v' l q h
  have IOk := fun (q : World) (v' : Value) (h : rd (fun b => b < q.heap.size) q [v'] l) (hM : ML q) => changesOk_is v' l q h hSl hM hkb
  have SO := fun (q : World) (v' : Value) (h : rd (fun b => b < q.heap.size) q [v'] l) => specChangesOk v' l q h hkb
  rw [hps] at IP SP
  have HPS := Lib.hid hps
  have HKB := Lib.hid hkb
  have hne : (kb != kb) = false := by simp
  have heq : (kb == kb) = true := by simp
  clear hdo hps hkb
  go_wp2_with fail
  refine (ID _ _ _ ht hl hM).mono ?_
  rintro e w1 ⟨xv, rfl, hX, hb1⟩
  have ht := Rep.lt (Rep.keep ht hb1)
  have hl := Rep.lt (Rep.keep hl hb1)
  have hM := ML.keep hM hb1
  have HB := HB.trans (hb1.mono HB.size)
  have hX := Rep.lt hX
  obtain ⟨hXA, hXC, hXV, _⟩ := rd_slice_elim hX
  subst hXV
  go_wp2_with fail
  refine (IP _ _ hl hM).mono ?_
  rintro e w2 ⟨pv, rfl, hP, hb2⟩
  have ht := Rep.lt (Rep.keep ht hb2)
  have hl := Rep.lt (Rep.keep hl hb2)
  have hM := ML.keep hM hb2
  have HB := HB.trans (hb2.mono HB.size)
  have hX := Rep.lt (Rep.keep hX hb2)
  have hP := Rep.lt hP.rd
  obtain ⟨hPA, hPC, hPV, _⟩ := rd_slice_elim hP
  subst hPV
  go_wp2_with fail
  refine (SP _ _ hl).mono ?_
  rintro e w3 ⟨qv, rfl, hQ, hb3⟩
  have ht := Rep.lt (Rep.keep ht hb3)
  have hl := Rep.lt (Rep.keep hl hb3)
  have hM := ML.keep hM hb3
  have HB := HB.trans (hb3.mono HB.size)
  have hX := Rep.lt (Rep.keep hX hb3)
  have hP := Rep.lt (Rep.keep hP hb3)
  have hQ := Rep.lt hQ.rd
  obtain ⟨hQA, hQC, hQV, _⟩ := rd_slice_elim hQ
  subst hQV
  go_wp2_with fail
  refine (smTexts_c _ _ ps ps _ hP hQ (decide_eq_true rfl)).mono ?_
  rintro e w4 ⟨rfl, hb4⟩
  have ht := Rep.lt (Rep.keep ht hb4)
  have hl := Rep.lt (Rep.keep hl hb4)
  have hM := ML.keep hM hb4
  have HB := HB.trans (hb4.mono HB.size)
  have hX := Rep.lt (Rep.keep hX hb4)
  have hP := Rep.lt (Rep.keep hP hb4)
  have hQ := Rep.lt (Rep.keep hQ hb4)
  clear hQ
  go_wp2_with fail
  refine (IOk _ _ hl hM).mono ?_
  rintro e w5 ⟨rfl, hb5⟩
  have ht := Rep.lt (Rep.keep ht hb5)
  have hl := Rep.lt (Rep.keep hl hb5)
  have hM := ML.keep hM hb5
  have HB := HB.trans (hb5.mono HB.size)
  have hX := Rep.lt (Rep.keep hX hb5)
  have hP := Rep.lt (Rep.keep hP hb5)
  go_wp2_with fail
  refine (SO _ _ hl).mono ?_
  rintro e w6 ⟨rfl, hb6⟩
  have ht := Rep.lt (Rep.keep ht hb6)
  have hl := Rep.lt (Rep.keep hl hb6)
  have hM := ML.keep hM hb6
  have HB := HB.trans (hb6.mono HB.size)
  have hX := Rep.lt (Rep.keep hX hb6)
  have hP := Rep.lt (Rep.keep hP hb6)
  cases ok with
  | false =>
    go_wp2_with fail
    refine (SP _ _ hl).mono ?_
    rintro e w7 ⟨qv2, rfl, hQ2, hb7⟩
    have ht := Rep.lt (Rep.keep ht hb7)
    have hl := Rep.lt (Rep.keep hl hb7)
    have hM := ML.keep hM hb7
    have HB := HB.trans (hb7.mono HB.size)
    have hX := Rep.lt (Rep.keep hX hb7)
    have hP := Rep.lt (Rep.keep hP hb7)
    have hQ2 := Rep.lt hQ2.rd
    obtain ⟨hQ2A, hQ2C, hQ2V, _⟩ := rd_slice_elim hQ2
    subst hQ2V
    go_wp2_with fail
    refine (smTexts_c _ _ ps ps _ hP hQ2 (decide_eq_true rfl)).mono ?_
    rintro e w8 ⟨rfl, hb8⟩
    have ht := Rep.lt (Rep.keep ht hb8)
    have hl := Rep.lt (Rep.keep hl hb8)
    have hM := ML.keep hM hb8
    have HB := HB.trans (hb8.mono HB.size)
    have hX := Rep.lt (Rep.keep hX hb8)
    have hP := Rep.lt (Rep.keep hP hb8)
    have hQ2 := Rep.lt (Rep.keep hQ2 hb8)
    go_wp2_with fail
    refine (IOk _ _ hl hM).mono ?_
    rintro e w9 ⟨rfl, hb9⟩
    have ht := Rep.lt (Rep.keep ht hb9)
    have hl := Rep.lt (Rep.keep hl hb9)
    have hM := ML.keep hM hb9
    have HB := HB.trans (hb9.mono HB.size)
    have hX := Rep.lt (Rep.keep hX hb9)
    have hP := Rep.lt (Rep.keep hP hb9)
    have hQ2 := Rep.lt (Rep.keep hQ2 hb9)
    go_wp2_with fail
    refine (SO _ _ hl).mono ?_
    rintro e w10 ⟨rfl, hb10⟩
    have ht := Rep.lt (Rep.keep ht hb10)
    have hl := Rep.lt (Rep.keep hl hb10)
    have hM := ML.keep hM hb10
    have HB := HB.trans (hb10.mono HB.size)
    have hX := Rep.lt (Rep.keep hX hb10)
    have hP := Rep.lt (Rep.keep hP hb10)
    have hQ2 := Rep.lt (Rep.keep hQ2 hb10)
    go_wp2
    go_ret
    exact ⟨rfl, HB⟩
  | true =>
    obtain ⟨ht1, ht2, ht3, _⟩ := good_do HD.out
    have hpi : ps = sortS (pathsC l) := by rw [← HPS.out]; unfold changesPathsI; rw [if_pos ht3]
    have hasc : AscP ps := by rw [hpi]; exact asc_sort ((changesB_iff l).1 ht3).2.2
    obtain ⟨hL1, hL2⟩ := paths_law HD.out
    rw [← hpi] at hL1 hL2
    have HL1 := Lib.hid hL1
    have HL2 := Lib.hid hL2
    have HASC := Lib.hid (fun (i : Nat) (h0 : 0 < i) (hi : i < ps.length) => asc_next hasc h0 hi)
    have hSx : ∀ f, f ∈ x → ShortS f.path := do_short HD.out hSt hSl
    have GX := fun (q : World) (v' : Value) (p : ByteArray) (M : Option (List ByteArray)) (h : rd (fun b => b < q.heap.size) q [v'] x) (hM : ML q) (hG : getT x p = M) => implTreeGet v' x p q h hSx hM (M := M) ((treeGet_ok ht2).trans hG)
    have GT := fun (q : World) (v' : Value) (p : ByteArray) (M : Option (List ByteArray)) (h : rd (fun b => b < q.heap.size) q [v'] t) (hM : ML q) (hG : getT t p = M) => implTreeGet v' t p q h hSt hM (M := M) ((treeGet_ok ht1).trans hG)
    obtain ⟨_, hts⟩ := rd_slice_of ht
    obtain ⟨_, hxs⟩ := rd_slice_of hX
    obtain ⟨_, hpss⟩ := rd_slice_of hP
    have n1 := hts.le
    have n2 := hxs.le
    have n3 := hpss.le
    clear ht1 ht2 ht3 hpi hasc hL1 hL2 ID IP SP IOk SO hne heq HKB HPS HD
    have hsz := HB.size
    go_wp2
    go_loopw [8] (fun i wr => (∃ k : Nat, k ≤ t.length ∧ i = .int .i64 k) ∧ Below w6.heap.size w6 wr) (fun i _ => t.length - (intOf i).toNat)
    case atStart => exact ⟨⟨0, by omega, rfl⟩, Below.refl _ _⟩
    case round =>
      obtain ⟨⟨k, hk, rfl⟩, hbr⟩ := hrel
      obtain ⟨wx, hwx⟩ : ∃ wx : World, wx = wr := ⟨_, rfl⟩
      subst hwx
      have hsr := hbr.size
      have hM := hM.keep hbr
      have hP := Rep.lt (Rep.keep hP hbr)
      have hX := Rep.lt (Rep.keep hX hbr)
      have ht := Rep.lt (Rep.keep ht hbr)
      have hl := hl
      have HBx := HB.trans (hbr.mono hsz)
      by_cases hlt : k < t.length
      · obtain ⟨g, off, a1, c1, hge, q0, q1, hz0, hft⟩ := (hts.keep hbr).file hlt
        subst hge
        have hg := HL1.out k hlt
        obtain ⟨f, hf⟩ : ∃ f, f = t[k] := ⟨_, rfl⟩
        rw [← hf] at q0 q1 hz0 hft hg
        have hft := hft.lt
        have hftr := Rep.lt hft.rd
        clear hf
        cases hh : hasS f.path ps with
        | true =>
          obtain ⟨M, hMX⟩ : ∃ M, getT x f.path = M := ⟨_, rfl⟩
          have GX1 := GX _ _ f.path M hX hM hMX
          obtain ⟨bm, hbm⟩ : ∃ bm, M.isSome = bm := ⟨_, rfl⟩
          obtain ⟨xm, hxm⟩ : ∃ xm, M.getD [] = xm := ⟨_, rfl⟩
          rw [hbm, hxm] at GX1
          clear hg hMX hbm hxm
          go_wp2_with fail
          refine GX1.mono ?_
          rintro e w11 ⟨nv, rfl, hN, hb1⟩
          obtain ⟨na, nc, hnv, _⟩ := hN.shape
          subst hnv
          have q0 := keepc q0 hb1
          have hP := Rep.lt (Rep.keep hP hb1)
          clear GX1
          go_wp2_with fail
          refine (smHas_is _ ps f.path _ hP hh).mono ?_
          rintro e w12 ⟨rfl, hb2⟩
          have hb12 := hbr.trans ((hb1.trans (hb2.mono hb1.size)).mono hsr)
          go_wp2
          go_roundw
          case rel => exact ⟨⟨k + 1, by omega, by go_num⟩, hb12⟩
          case measure => simp [intOf] <;> omega
        | false =>
          have GX1 := GX _ _ f.path (some f.text) hX hM (hg hh)
          have es : (some f.text : Option (List ByteArray)).isSome = true := rfl
          have eg : (some f.text : Option (List ByteArray)).getD [] = f.text := rfl
          rw [es, eg] at GX1
          clear hg es eg
          go_wp2_with fail
          refine GX1.mono ?_
          rintro e w11 ⟨nv, rfl, hN, hb1⟩
          obtain ⟨na, nc, hnv, _⟩ := hN.shape
          subst hnv
          have q0 := keepc q0 hb1
          have q1 := keepc q1 hb1
          have hP := Rep.lt (Rep.keep hP hb1)
          have hftr := Rep.lt (Rep.keep hftr hb1)
          have hN := Rep.lt hN.rd
          clear GX1
          go_wp2_with fail
          refine (smHas_is _ ps f.path _ hP hh).mono ?_
          rintro e w12 ⟨rfl, hb2⟩
          have q1 := keepc q1 hb2
          have hftr := Rep.lt (Rep.keep hftr hb2)
          have hN := Rep.lt (Rep.keep hN hb2)
          have hb12 := hb1.trans (hb2.mono hb1.size)
          go_wp2_with fail
          refine (smTexts_c _ _ f.text f.text _ hN hftr (decide_eq_true rfl)).mono ?_
          rintro e w13 ⟨rfl, hb3⟩
          have hb13 := hbr.trans ((hb12.trans (hb3.mono hb12.size)).mono hsr)
          go_wp2
          go_roundw
          case rel => exact ⟨⟨k + 1, by omega, by go_num⟩, hb13⟩
          case measure => simp [intOf] <;> omega
      · have hxs := hxs.keep hbr
        have hpss := hpss.keep hbr
        clear hts
        go_wp2
        go_loopw [11] (fun i wr => (∃ k : Nat, k ≤ x.length ∧ i = .int .i64 k) ∧ Below wx.heap.size wx wr) (fun i _ => x.length - (intOf i).toNat)
        case atStart => exact ⟨⟨0, by omega, rfl⟩, Below.refl _ _⟩
        case round =>
          obtain ⟨⟨i, hi, rfl⟩, hbq⟩ := hrel
          obtain ⟨wy, hwy⟩ : ∃ wy : World, wy = wr := ⟨_, rfl⟩
          subst hwy
          have hsq := hbq.size
          have hM := hM.keep hbq
          have ht := Rep.lt (Rep.keep ht hbq)
          have hX := Rep.lt (Rep.keep hX hbq)
          have HBy := HBx.trans (hbq.mono HBx.size)
          by_cases hlt2 : i < x.length
          · obtain ⟨g, off, a1, c1, hge, q0, _, hz0, _⟩ := ((rd_slice_of hX).2).file hlt2
            subst hge
            have hg := HL2.out i hlt2
            obtain ⟨p, hp⟩ : ∃ p, p = x[i].path := ⟨_, rfl⟩
            rw [← hp] at q0 hz0 hg
            clear hp
            obtain ⟨M, hMX⟩ : ∃ M, getT t p = M := ⟨_, rfl⟩
            have GT1 := GT _ _ p M ht hM hMX
            obtain ⟨bm, hbm⟩ : ∃ bm, M.isSome = bm := ⟨_, rfl⟩
            obtain ⟨xm, hxm⟩ : ∃ xm, M.getD [] = xm := ⟨_, rfl⟩
            have HBM := Lib.hid (fun hh : hasS p ps = false => show bm = true by rw [← hbm, ← hMX]; obtain ⟨y, hy⟩ := hg hh; rw [hy]; rfl)
            rw [hbm, hxm] at GT1
            have hpss := hpss.keep (hbq.mono hsr)
            clear hg hMX hbm hxm
            go_wp2_with fail
            refine GT1.mono ?_
            rintro e w11 ⟨nv, rfl, hN, hb1⟩
            obtain ⟨na, nc, hnv, _⟩ := hN.shape
            subst hnv
            have q0 := keepc q0 hb1
            have hpss := hpss.keep (hb1.mono (Nat.le_trans hsr hsq))
            have hB1 := hbq.trans (hb1.mono hsq)
            have hs1 := hB1.size
            clear GT1 hN
            cases hh : hasS p ps with
            | true =>
              clear HBM
              have z0 := BW.cell q0
              by_cases hi0 : 0 < i
              · have di0 : decide (0 < i) = true := decide_eq_true hi0
                by_cases hip : i < ps.length
                · have dip : decide (i < ps.length) = true := decide_eq_true hip
                  obtain ⟨j, hj⟩ : ∃ j, j = i - 1 := ⟨_, rfl⟩
                  have hjl : j < ps.length := by omega
                  have hls : lessB ps[j] ps[i] = true := by have := HASC.out i hi0 hip; simp only [← hj] at this; exact this
                  have hwj : IntKind.i64.wrap ((i : Int) - 1) = (j : Int) := by rw [IntWalk.i64_in _ (by omega)]; omega
                  obtain ⟨gp, op, hgp, hcp, _⟩ := hpss.str hip
                  obtain ⟨gp2, op2, hgp2, hcp2, _⟩ := hpss.str (i := j) hjl
                  subst hgp
                  obtain ⟨rfl, rfl⟩ : gp = gp2 ∧ op = op2 := by simpa using hgp2
                  obtain ⟨s1, hs1'⟩ : ∃ s1, s1 = ps[j] := ⟨_, rfl⟩
                  obtain ⟨s2, hs2'⟩ : ∃ s2, s2 = ps[i] := ⟨_, rfl⟩
                  rw [← hs1', ← hs2'] at hls
                  rw [← hs1'] at hcp2
                  rw [← hs2'] at hcp
                  have hl' : Op.bytesLess s2.toList s1.toList = false := less_anti hls
                  have hne2 : ¬ s2 = s1 := fun e => by rw [e, lessB_irr] at hls; cases hls
                  have zp := BW.cell hcp
                  have zp2 := BW.cell hcp2
                  clear hls hs1' hs2' hgp2 hj
                  go_wp2
                  refine wp_region_bw (by kernel_rfl) (by kernel_rfl) ?_
                  repeat (go_big_quiet_step ((first | (go_at_call 12; exact Calls.bw (smHas_is _ ps p _ (hpss.bw _).rd hh)))))
                  refine wpQuiet_nil ?_
                  rintro w1 ⟨⟨_, hbw⟩, rfl⟩
                  go_wp2
                  go_roundw
                  case rel => exact ⟨⟨i + 1, by omega, by go_num⟩, hB1.trans (hbw.mono hs1)⟩
                  case measure => simp [intOf] <;> omega
                · have dip : decide (i < ps.length) = false := decide_eq_false hip
                  go_wp2
                  refine wp_region_bw (by kernel_rfl) (by kernel_rfl) ?_
                  repeat (go_big_quiet_step ((first | (go_at_call 12; exact Calls.bw (smHas_is _ ps p _ (hpss.bw _).rd hh)))))
                  refine wpQuiet_nil ?_
                  rintro w1 ⟨⟨_, hbw⟩, rfl⟩
                  go_wp2
                  go_roundw
                  case rel => exact ⟨⟨i + 1, by omega, by go_num⟩, hB1.trans (hbw.mono hs1)⟩
                  case measure => simp [intOf] <;> omega
              · have di0 : decide (0 < i) = false := decide_eq_false hi0
                go_wp2
                refine wp_region_bw (by kernel_rfl) (by kernel_rfl) ?_
                repeat (go_big_quiet_step ((first | (go_at_call 12; exact Calls.bw (smHas_is _ ps p _ (hpss.bw _).rd hh)))))
                refine wpQuiet_nil ?_
                rintro w1 ⟨⟨_, hbw⟩, rfl⟩
                go_wp2
                go_roundw
                case rel => exact ⟨⟨i + 1, by omega, by go_num⟩, hB1.trans (hbw.mono hs1)⟩
                case measure => simp [intOf] <;> omega
            | false =>
              have hbt := HBM.out hh
              subst hbt
              clear HBM
              have z0 := BW.cell q0
              by_cases hi0 : 0 < i
              · have di0 : decide (0 < i) = true := decide_eq_true hi0
                by_cases hip : i < ps.length
                · have dip : decide (i < ps.length) = true := decide_eq_true hip
                  obtain ⟨j, hj⟩ : ∃ j, j = i - 1 := ⟨_, rfl⟩
                  have hjl : j < ps.length := by omega
                  have hls : lessB ps[j] ps[i] = true := by have := HASC.out i hi0 hip; simp only [← hj] at this; exact this
                  have hwj : IntKind.i64.wrap ((i : Int) - 1) = (j : Int) := by rw [IntWalk.i64_in _ (by omega)]; omega
                  obtain ⟨gp, op, hgp, hcp, _⟩ := hpss.str hip
                  obtain ⟨gp2, op2, hgp2, hcp2, _⟩ := hpss.str (i := j) hjl
                  subst hgp
                  obtain ⟨rfl, rfl⟩ : gp = gp2 ∧ op = op2 := by simpa using hgp2
                  obtain ⟨s1, hs1'⟩ : ∃ s1, s1 = ps[j] := ⟨_, rfl⟩
                  obtain ⟨s2, hs2'⟩ : ∃ s2, s2 = ps[i] := ⟨_, rfl⟩
                  rw [← hs1', ← hs2'] at hls
                  rw [← hs1'] at hcp2
                  rw [← hs2'] at hcp
                  have hl' : Op.bytesLess s2.toList s1.toList = false := less_anti hls
                  have hne2 : ¬ s2 = s1 := fun e => by rw [e, lessB_irr] at hls; cases hls
                  have zp := BW.cell hcp
                  have zp2 := BW.cell hcp2
                  clear hls hs1' hs2' hgp2 hj
                  go_wp2
                  refine wp_region_bw (by kernel_rfl) (by kernel_rfl) ?_
                  repeat (go_big_quiet_step ((first | (go_at_call 12; exact Calls.bw (smHas_is _ ps p _ (hpss.bw _).rd hh)))))
                  refine wpQuiet_nil ?_
                  rintro w1 ⟨⟨_, hbw⟩, rfl⟩
                  go_wp2
                  go_roundw
                  case rel => exact ⟨⟨i + 1, by omega, by go_num⟩, hB1.trans (hbw.mono hs1)⟩
                  case measure => simp [intOf] <;> omega
                · have dip : decide (i < ps.length) = false := decide_eq_false hip
                  go_wp2
                  refine wp_region_bw (by kernel_rfl) (by kernel_rfl) ?_
                  repeat (go_big_quiet_step ((first | (go_at_call 12; exact Calls.bw (smHas_is _ ps p _ (hpss.bw _).rd hh)))))
                  refine wpQuiet_nil ?_
                  rintro w1 ⟨⟨_, hbw⟩, rfl⟩
                  go_wp2
                  go_roundw
                  case rel => exact ⟨⟨i + 1, by omega, by go_num⟩, hB1.trans (hbw.mono hs1)⟩
                  case measure => simp [intOf] <;> omega
              · have di0 : decide (0 < i) = false := decide_eq_false hi0
                go_wp2
                refine wp_region_bw (by kernel_rfl) (by kernel_rfl) ?_
                repeat (go_big_quiet_step ((first | (go_at_call 12; exact Calls.bw (smHas_is _ ps p _ (hpss.bw _).rd hh)))))
                refine wpQuiet_nil ?_
                rintro w1 ⟨⟨_, hbw⟩, rfl⟩
                go_wp2
                go_roundw
                case rel => exact ⟨⟨i + 1, by omega, by go_num⟩, hB1.trans (hbw.mono hs1)⟩
                case measure => simp [intOf] <;> omega
          · go_wp2
            go_ret
            exact ⟨rfl, HBy⟩
end Go.Proofs.YthddcfbjgcbioaaGreatDoor
namespace Go.Proofs.YthddcfbjgcbioaaGreatDoor.fnChangesPaths
open Go.ChangeShapes Go.WideShapes Go.ChangeAt Go.RowKit Go.Vc
theorem named : Tryz.pinned.checked.prog.funcNamed Rows.fnChangesPathsRow.func = some 3 := by kernel_rfl
theorem closed : joinedFacts Tryz.pinned.checked.prog 3 Tryz.f3 Rows.fnChangesPathsSpec Rows.fnChangesPathsRow = true := by kernel_rfl
theorem inst : Tryz.f3.isInstance Tryz.pinned.checked.prog Rows.fnChangesPathsRow.origin Rows.fnChangesPathsRow.targs := of_decide_eq_true (by kernel_rfl)
theorem wrap : Tryz.f3.isWrapper Tryz.pinned.checked.prog Rows.fnChangesPathsRow.wrapper Rows.fnChangesPathsRow.mainSum := by unfold Func.isWrapper; first | (rw [if_pos (by decide +kernel)]; kernel_rfl) | (rw [if_neg (by decide +kernel)]; exact ⟨rfl, rfl⟩)
end Go.Proofs.YthddcfbjgcbioaaGreatDoor.fnChangesPaths
