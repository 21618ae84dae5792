/-
  Walks: which commit wrote each line, as the reference has it; the two functions.
-/
import Derived.Test.YtmblockojnaffaaDoorWBlame
import Derived.Test.YtmblockojnaffaaDoorWRepoS
import Derived.Test.YtmblockojnaffaaDoorWRepo
set_option linter.unusedVariables false
namespace Go.Vc
theorem fill_snoc (k : Nat) (x : Int) : List.replicate k x ++ [x] = List.replicate (k + 1) x := (List.replicate_succ' ..).symm
end Go.Vc
namespace Go.Proofs.YtmblockojnaffaaDoor
open Go.RowKit Go.Vc
open Go.Vc.Rep (rd)
open Go.Vc.Own (own)

set_option maxHeartbeats 16000000 in
set_option maxRecDepth 100000 in
theorem l11Of_any (cs : List Commit) (path : ByteArray) (hP : parOk cs) (hn : cs.length ≤ 16) (hT : ∀ i : Int, 0 ≤ i → i < (cs.length : Int) → ∀ f, f ∈ treeAtC cs i → f.text.length ≤ 10) (hz : path.size ≤ 1048576) (n : Nat) :
    ∀ (S : Nat → Prop) (v0 v1 : Value) (at_ : Int) (w : World), rd S w [v0] cs → 0 ≤ at_ → at_ < (cs.length : Int) → at_ < (n : Int) →
    Calls Tryd.prog 79 #[.agg #[v0, v1], .int .i64 at_, .string path] w fun e w' => ∃ v', e = .returned v' ∧ Fresh w.heap.size w'.heap.size w' [v'] ((blameF cs path n at_).getD []) ∧ Below w.heap.size w w' := by
  induction n with
  | zero => intro S v0 v1 at_ w h0 h1 h2 h3; omega
  | succ n IH =>
    intro S v0 v1 at_ w h0 h1 h2 h3
    obtain ⟨a, cap, rfl, hs⟩ := rd_slice_elim (Rep.lt h0)
    have hi64 : I64 at_ := by unfold I64; omega
    obtain ⟨k0, rfl⟩ : ∃ k : Nat, at_ = (k : Int) := ⟨at_.toNat, by omega⟩
    have hk0 : k0 < cs.length := by omega
    have hB0 : Below w.heap.size w (w.alloc (.cells #[.slice a cs.length cap, v1] 32)) := ((Below.refl _ _).alloc (by simp <;> omega) _)
    have q0 : (w.alloc (.cells #[.slice a cs.length cap, v1] 32)).cell? ⟨w.heap.size, 0, none⟩ = some (.slice a cs.length cap) := by rw [cell_of_row _ _ 0 _ _ (0, 0) (heap_alloc_new _ _)]; rfl
    have q1 : (w.alloc (.cells #[.slice a cs.length cap, v1] 32)).cell? ⟨w.heap.size, 1, none⟩ = some v1 := by rw [cell_of_row _ _ 1 _ _ (0, 0) (heap_alloc_new _ _)]; rfl
    obtain ⟨g, off, ap, np, at2, nt, rfl, hc0, hc1, hc2, hpar, hz1, htr⟩ := hs.commit hk0
    have HTA : Hid (treeAtC cs (k0 : Int) = cs[k0].tree) := by show _ = _; unfold treeAtC; rw [Int.toNat_natCast, getD_com hk0]
    have HPA : Hid ((cs.getD (k0 : Int).toNat noCommit).parents = cs[k0].parents) := by show _ = _; rw [Int.toNat_natCast, getD_com hk0]
    have hlen : ∀ (i : Int) (x : List ByteArray), 0 ≤ i → i < (cs.length : Int) → getT (treeAtC cs i) path = some x → x.length ≤ 10 := fun i x hi0 hi1 hx => by
      obtain ⟨f, hf, _, rfl⟩ := getT_mem hx
      exact hT i hi0 hi1 f hf
    have HLEN := Lib.hid hlen
    obtain ⟨t0, ht0⟩ : ∃ t, t = cs[k0].tree := ⟨_, rfl⟩
    obtain ⟨ps0, hps0⟩ : ∃ t, t = cs[k0].parents := ⟨_, rfl⟩
    rw [← ht0] at hc2 htr HTA
    rw [← hps0] at hc0 hpar HPA
    have HC0 := Lib.hid hc0
    have hc2 := keepc hc2 hB0
    have hlp := hpar.le
    clear hlen ht0 hps0 hc0 hc1
    cases hM : getT t0 path with
    | none =>
      have HN := Lib.hid (blame_none (n := n) (cs := cs) (path := path) (at_ := (k0 : Int)) (by rw [HTA.out]; exact hM))
      have hE := Fresh.empty (β := Int) Nat.one_pos (w.alloc (.cells #[.slice (some ⟨g, off, none⟩) cs.length cap, v1] 32)).heap.size (w.alloc (.cells #[.slice (some ⟨g, off, none⟩) cs.length cap, v1] 32)) (Nat.le_refl _)
      have hE := hE.now.mono hB0.size (Nat.le_refl _)
      rw [show (w.alloc (.cells #[.slice (some ⟨g, off, none⟩) cs.length cap, v1] 32)).heap.size = w.heap.size + 1 by simp] at hE
      go_enter Tryd.func79, Tryd.ntmps79
      go_wp2_with fail
      refine (l4Get_any _ t0 path _ (htr.keep hB0).rd hM).mono ?_
      rintro e w2 ⟨vx, rfl, hX, rfl⟩
      go_wp2
      go_ret
      exact ⟨_, rfl, by rw [HN.out]; exact hE, hB0.alloc hB0.size _⟩
    | some text =>
      have HM : Hid (getT (treeAtC cs (k0 : Int)) path = some text) := by show _ = _; rw [HTA.out]; exact hM
      have hx10 := HLEN.out k0 text h1 h2 HM.out
      obtain ⟨wb, hwb⟩ : ∃ wb, wb = w.alloc (.cells #[.slice (some ⟨g, off, none⟩) cs.length cap, v1] 32) := ⟨_, rfl⟩
      have hc2r := hc2
      have q0r := q0
      rw [← hwb] at hB0 q0 q1 hc2
      have HWB := Lib.hid hwb
      have hE := Fresh.empty (β := Int) Nat.one_pos wb.heap.size wb (Nat.le_refl _)
      have hbE := (Below.refl wb.heap.size wb).alloc (Nat.le_refl _) (.cells #[] (Tid.tid Int))
      clear hwb
      go_enter Tryd.func79, Tryd.ntmps79
      go_wp2_with fail
      rw [← HWB.out]
      refine (l4Get_any _ t0 path _ (htr.keep hB0).rd hM).mono ?_
      rintro e w2 ⟨vx, rfl, hX, rfl⟩
      have hX : rd (fun b => b < w2.heap.size) w2 [vx] text := hX
      obtain ⟨ax, cx, hvx, hXs⟩ := rd_slice_elim hX
      subst hvx
      have hle := hXs.le
      clear hM HWB hX hc2 hc2r q0r
      go_wp2
      go_loopw [9, 10] (fun out i wr => (∃ (k : Nat) (ol : List Int), k ≤ text.length ∧ i = .int .i64 k ∧ ol = List.replicate k (k0 : Int) ∧ Fresh w2.heap.size wr.heap.size wr [out] ol) ∧ Below w2.heap.size w2 wr) (fun _ i _ => text.length - (intOf i).toNat)
      case atStart => exact ⟨⟨0, [], by omega, rfl, rfl, hE.now⟩, hbE⟩
      case round =>
        clear hE hbE
        obtain ⟨⟨k, ol, hk, rfl, hol, hF⟩, hb⟩ := hrel
        have HOLN := Lib.hid (show ol.length = k by rw [hol]; simp)
        have hoB : ol.length ≤ k := by rw [HOLN.out]; exact Nat.le_refl _
        have HOL := Lib.hid hol
        clear hol
        have hsz := hb.size
        obtain ⟨a2, c2, hv2, _⟩ := hF.shape
        subst hv2
        by_cases hlt : k < text.length
        · go_wp2_with (at_builtin; go_must (refine wpList_app_leaf slz_int.slt rfl (.tmp 38) (.tmp 40) rfl rfl (hF.alloc _) (by simp; omega) rfl rfl (lit_ints [(k0 : Int)] (heap_alloc_new _ _) (by simpa using hi64) (by unfold maxLen; simp)) (by simp; omega) (by unfold maxLen; simp; omega) ?_); intro a5 c5 w5 hG5)
          go_roundw
          case rel => exact ⟨⟨k + 1, ol ++ [(k0 : Int)], by omega, by go_num, by rw [HOL.out]; exact fill_snoc _ _, by have := hG5.fresh; simpa using this⟩, (hb.alloc hsz _).trans hG5.below⟩
          case measure => simp [intOf] <;> omega
        · have hkt : k = text.length := by omega
          have HOL : Hid (ol = List.replicate text.length (k0 : Int)) := by show _ = _; rw [HOL.out, hkt]
          have HOLT := Lib.hid (show ol.length = text.length by rw [HOLN.out, hkt])
          have hb0 := hB0.trans (hb.mono hB0.size)
          have q0d := keepc q0 hb
          have q1d := keepc q1 hb
          have hXd := hXs.keep hb
          have hcd := keepc HC0.out hb0
          clear q0 q1 hkt
          cases hp : ps0 with
          | nil =>
            have HN := Lib.hid (blame_root (n := n) HM.out (HPA.out.trans hp))
            rw [hp] at hcd
            have hd0 : (((([] : List Int).length : Nat) : Int) == 0) = true := rfl
            go_wp2
            go_ret
            exact ⟨_, rfl, by rw [HN.out, Option.getD_some, ← HOL.out]; exact hF.mono hB0.size (Nat.le_refl _), hb0⟩
          | cons p ps =>
            obtain ⟨hp0, hp1⟩ := par_first hP h1 h2 (HPA.out.trans hp)
            obtain ⟨pn, rfl⟩ : ∃ k : Nat, p = (k : Int) := ⟨p.toNat, by omega⟩
            have hpl : pn < cs.length := by omega
            have hd0 : ((ps0.length : Int) == 0) = false := by rw [hp, beq_eq_false_iff_ne, List.length_cons]; omega
            have hone : (0 : Int) < ps0.length := by rw [hp, List.length_cons]; omega
            obtain ⟨g2, off2, hag2, hd, hdi⟩ := (hpar.keep hb0).int (i := 0) (by rw [hp]; simp)
            subst hag2
            have hp00 : ps0[0]'(by rw [hp]; simp) = (pn : Int) := by simp [hp]
            rw [hp00, Nat.add_zero] at hd
            obtain ⟨g3, off3, ap3, np3, at3, nt3, he3, e0, e1, e2, _, _, etr⟩ := (hs.keep hb0).commit hpl
            obtain ⟨rfl, rfl⟩ : g = g3 ∧ off = off3 := by simpa using he3
            have HT3 : Hid (treeAtC cs (pn : Int) = cs[pn].tree) := by show _ = _; unfold treeAtC; rw [Int.toNat_natCast, getD_com hpl]
            obtain ⟨t3, ht3⟩ : ∃ t, t = cs[pn].tree := ⟨_, rfl⟩
            rw [← ht3] at e2 etr HT3
            obtain ⟨m, rfl⟩ : ∃ m, n = m + 1 := ⟨n - 1, by omega⟩
            have HPP := Lib.hid (HPA.out.trans hp)
            clear hdi hp00 he3 e0 e1 ht3 hp
            cases ho : getT t3 path with
            | none =>
              have HN := Lib.hid (blame_new (n := m + 1) HM.out HPP.out (by rw [HT3.out]; exact ho))
              go_wp2_with fail
              refine (l4Get_any _ t3 path _ etr.rd ho).mono ?_
              rintro e w4 ⟨vo, rfl, hO, rfl⟩
              go_wp2
              go_ret
              exact ⟨_, rfl, by rw [HN.out, Option.getD_some, ← HOL.out]; exact hF.mono hB0.size (Nat.le_refl _), hb0⟩
            | some old =>
              have ho2 : getT (treeAtC cs (pn : Int)) path = some old := by rw [HT3.out]; exact ho
              obtain ⟨l, hl, hll⟩ := blame_some (n := m) ho2
              have ho10 := HLEN.out pn old hp0 (by omega) ho2
              have HN := Lib.hid (blame_old (n := m + 1) HM.out HPP.out ho2)
              rw [hl] at HN
              go_wp2_with fail
              refine (l4Get_any _ t3 path _ etr.rd ho).mono ?_
              rintro e w4 ⟨vo, rfl, hO, rfl⟩
              have hO : rd (fun b => b < w4.heap.size) w4 [vo] old := Rep.lt hO
              have IHp := IH _ (.slice (some ⟨g, off, none⟩) cs.length cap) v1 (pn : Int) w4 (hs.keep hb0).rd hp0 (by omega) (by omega)
              rw [hl] at IHp
              go_wp2_with fail
              refine IHp.mono ?_
              rintro e w5 ⟨vb, rfl, hBl, hb5⟩
              have hBl : Fresh w4.heap.size w5.heap.size w5 [vb] l := hBl
              have hF5 := hF.belowm (Nat.le_refl _) hb5
              have hb5' := hb.trans (hb5.mono hb.size)
              have hX5 := hXd.keep (hb5.mono hb.size)
              have hO5 := Rep.keep hO hb5
              have hs5 := hb5.size
              go_wp2_with fail
              refine (l1Match_any _ _ old text _ hO5 hX5.rd ho10 hx10).mono ?_
              rintro e w7 ⟨vm, rfl, hMt, hb7⟩
              have hs7 := hb7.size
              have hb7' := hb5'.trans (hb7.mono hb5'.size)
              have hF7 := hF5.belowm (by omega) hb7
              have hBl7 := hBl.belowm (Nat.le_refl _) hb7
              have hml := matchT_len old text
              have HRG := Lib.hid (matchT_range old text)
              obtain ⟨ms, hms⟩ : ∃ ms, ms = matchT old text := ⟨_, rfl⟩
              have HRG : Hid (∀ k (hk : k < ms.length), ms[k] = -1 ∨ ∃ n : Nat, ms[k] = (n : Int) ∧ n < text.length) := by subst hms; exact HRG
              rw [← hms] at hMt hml HN
              obtain ⟨am, cm, hvm, hMs⟩ := hMt.shape
              subst hvm
              obtain ⟨ab, cb, hvb, hBs⟩ := hBl7.shape
              subst hvb
              obtain ⟨C, hC⟩ : ∃ C, C = w4.heap.size := ⟨_, rfl⟩
              have hMs : IsSlice (fun b => C ≤ b) w7 am cm ms := hMs.mono (fun b hb => by omega)
              have hBs : IsSlice (fun b => C ≤ b) w7 ab cb l := hBs.mono (fun b hb => by omega)
              have HN : Hid (blameF cs path (m + 1 + 1) (k0 : Int) = some (putB l (List.replicate text.length (k0 : Int)) ms 0)) := HN
              have hC7 : C ≤ w7.heap.size := by omega
              have hC2 : w2.heap.size ≤ C := by rw [hC]; exact hb.size
              have hF7 : Fresh w2.heap.size C w7 [.slice a2 ol.length c2] ol := by rw [hC]; exact hF7
              rw [← HOL.out] at HN
              clear hms hMt hBl7 hBl hO hO5 hX5 hF5 hb5 hb5' hb7 hC hF hXd q0d q1d hcd hd e2 etr hb0 hb IHp ho ho2 hl hone hd0
              go_wp2
              go_loopw [16] (fun i wr => (∃ (k : Nat) (ys : List Int), k ≤ ms.length ∧ i = .int .i64 k ∧ ys.length = text.length ∧ Fresh w2.heap.size C wr [.slice a2 ol.length c2] ys ∧ IsSlice (fun b => C ≤ b) wr am cm ms ∧ IsSlice (fun b => C ≤ b) wr ab cb l ∧ C ≤ wr.heap.size ∧ Hid (putB l ol ms 0 = putB l ys (ms.drop k) k)) ∧ Below w2.heap.size w2 wr) (fun i _ => ms.length - (intOf i).toNat)
              case atStart => exact ⟨⟨0, ol, by omega, rfl, HOLT.out, hF7, hMs, hBs, hC7, rfl⟩, hb7'⟩
              case round =>
                clear hF7 hMs hBs hC7 hb7'
                obtain ⟨⟨k, ys, hk, rfl, hyl, hF, hMs, hBs, hg, HA⟩, hb⟩ := hrel
                by_cases hlt : k < ms.length
                · obtain ⟨g1, off1, hag1, hc1, _⟩ := hMs.int hlt
                  subst hag1
                  rcases HRG.out k hlt with he | ⟨j, he, hj⟩
                  · have HNX := Lib.hid (putB_no HA.out hlt he)
                    rw [he] at hc1
                    clear he
                    go_wp2
                    go_roundw
                    case rel => exact ⟨⟨k + 1, ys, by omega, by go_num, hyl, hF, hMs, hBs, hg, HNX.out⟩, hb⟩
                    case measure => simp [intOf] <;> omega
                  · have hkl : k < l.length := by omega
                    obtain ⟨g5, off5, hag5, hc5, hi5⟩ := hBs.int hkl
                    subst hag5
                    have HNX := Lib.hid (putB_in HA.out hlt he hkl)
                    rw [he] at hc1
                    obtain ⟨y, hy⟩ : ∃ y, y = l[k] := ⟨_, rfl⟩
                    rw [← hy] at hc5 hi5 HNX
                    obtain ⟨gz, hgz, hz0, hz1⟩ := hF.addr (by omega)
                    subst hgz
                    obtain ⟨⟨u, hu⟩, hfz, _, _⟩ := hF.there1 rfl (i := j) (by omega)
                    have hF2 := (hF.drew.set1 rfl (i := j) (by omega) (u := .int .i64 y) (y := y) (Fresh.leaf (m := C) (own_intm y hi5 _)) hC2).one.mono hz0 hz1
                    have hb2 := hb.drew.setCell (p := ⟨gz, j, none⟩) hz0 (.int .i64 y)
                    have hM2 := hMs.drew.setCell (p := ⟨gz, j, none⟩) (u := .int .i64 y) (by show ¬ C ≤ gz; omega)
                    have hB2 := hBs.drew.setCell (p := ⟨gz, j, none⟩) (u := .int .i64 y) (by show ¬ C ≤ gz; omega)
                    have hs6 : (wr.drew.setCell ⟨gz, j, none⟩ (.int .i64 y)).heap.size = wr.heap.size := by simp
                    have hjn : decide ((0 : Int) ≤ (j : Int)) = true := decide_eq_true (by omega)
                    have hjo : j < ol.length := by rw [HOLT.out]; exact hj
                    clear he hy
                    go_wp2_with fail
                    go_region_law (fail)
                    all_goals
                      go_wp2
                      go_roundw
                      case rel => exact ⟨⟨k + 1, ys.set j y, by omega, by go_num, by simpa using hyl, hF2, hM2, hB2, by first | omega | (simp; exact hg) | (simp; omega), HNX.out⟩, hb2⟩
                      case measure => simp [intOf] <;> omega
                · have HE := Lib.hid (putB_end HA.out hlt)
                  go_wp2
                  go_ret
                  exact ⟨_, rfl, by rw [HN.out, HE.out]; exact hF.mono hB0.size hg, hB0.trans (hb.mono hB0.size)⟩
end Go.Proofs.YtmblockojnaffaaDoor
