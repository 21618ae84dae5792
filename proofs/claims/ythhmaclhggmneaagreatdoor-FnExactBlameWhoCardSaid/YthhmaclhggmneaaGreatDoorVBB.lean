/-
  Walks: which commit wrote each line, as the program has it. / Walks: which commit wrote each line, as the reference has it; the two functions. / Walks: which commit wrote each line: the two functions.
-/
import Derived.Test.YthhmaclhggmneaaGreatDoorWGet
import Derived.Test.YthhmaclhggmneaaGreatDoorWTouch
import Derived.Test.YthhmaclhggmneaaGreatDoorWM2
import Derived.Test.YthhmaclhggmneaaGreatDoorPlBLine
import Derived.Test.YthhmaclhggmneaaGreatDoorWRepoS
import Derived.Test.YthhmaclhggmneaaGreatDoorWRepo
set_option linter.unusedVariables false
namespace Go.Vc
def fillT (n k : Nat) (x : Int) : List Int := List.replicate k x ++ List.replicate (n - k) 0
theorem fillT_len {n k : Nat} (h : k ≤ n) (x : Int) : (fillT n k x).length = n := by simp [fillT]; omega
theorem fillT_zero (n : Nat) (x : Int) : fillT n 0 x = List.replicate n 0 := by simp [fillT]
theorem fillT_all (n : Nat) (x : Int) : fillT n n x = List.replicate n x := by simp [fillT]
theorem fillT_set {n k : Nat} (h : k < n) (x : Int) : (fillT n k x).set k x = fillT n (k + 1) x := by
  unfold fillT
  rw [List.set_append_right _ _ (by simp), List.length_replicate, Nat.sub_self, show n - k = (n - (k + 1)) + 1 by omega, List.replicate_succ, List.set_cons_zero, List.replicate_succ', List.append_assoc]
  rfl
theorem incM_range {hi : Nat} : ∀ {ms : List Int} {lo : Nat}, incM hi lo ms → ∀ k (hk : k < ms.length), ms[k] = -1 ∨ ∃ n : Nat, ms[k] = (n : Int) ∧ n < hi
  | [], _, _, k, hk => absurd hk (by simp)
  | m :: ms, lo, h, 0, _ => by
    rcases incM_at (ms := m :: ms) (k := 0) h (by simp) with ⟨h1, _⟩ | ⟨n, h1, _, h3, _⟩
    · exact .inl h1
    · exact .inr ⟨n, h1, h3⟩
  | m :: ms, lo, h, k + 1, hk => by
    have hms : ∃ lo', incM hi lo' ms := by
      rcases incM_at (ms := m :: ms) (k := 0) h (by simp) with ⟨_, h2⟩ | ⟨n, _, _, _, h4⟩
      · exact ⟨_, by simpa using h2⟩
      · exact ⟨_, by simpa using h4⟩
    obtain ⟨lo', hm'⟩ := hms
    exact incM_range hm' k (by simpa using hk)
theorem matchT_range (old text : List ByteArray) (k : Nat) (hk : k < (matchT old text).length) : (matchT old text)[k] = -1 ∨ ∃ n : Nat, (matchT old text)[k] = (n : Int) ∧ n < text.length := incM_range (mt_inc text old 0) k hk
end Go.Vc
namespace Go.Proofs.YthhmaclhggmneaaGreatDoor
open Go.RowKit Go.Vc
open Go.Vc.Rep (rd)
open Go.Vc.Own (own)
/-- a row of ints, all zero -/
theorem ints_zero (wb : World) (n : Nat) (hn : n ≤ 1000) :
    ∃ wd, wd = wb.alloc (.cells (madeCells #[Value.int .i64 0] (n * Rep.sz Int)) (Tid.tid Int)) ∧
      Fresh wb.heap.size wd.heap.size wd [.slice (some ⟨wb.heap.size, 0, none⟩) n n] (List.replicate n (0 : Int)) ∧ Below wb.heap.size wb wd ∧ wd.heap.size = wb.heap.size + 1 := by
  have hfr := (Fresh.made (w := wb) slz_int.hz slz_int.pos wb.heap.size n (by unfold maxLen; omega) (Nat.le_refl _)).now
  have hzr : List.replicate n (Zr.zr : Int) = List.replicate n 0 := rfl
  have hcz : (Value.int .i64 0).cells = #[Value.int .i64 0] := rfl
  rw [hzr, hcz] at hfr
  exact ⟨_, rfl, hfr, (Below.refl _ _).alloc (Nat.le_refl _) _, by simp⟩

set_option maxHeartbeats 16000000 in
set_option maxRecDepth 100000 in
theorem blame_any (cs : List Commit) (path : ByteArray) (hP : parOk cs) (hn : cs.length ≤ 16) (hT : ∀ i : Int, 0 ≤ i → i < (cs.length : Int) → ∀ f, f ∈ treeAtC cs i → f.text.length ≤ 10) (hz : path.size ≤ 1048576) (n : Nat) :
    ∀ (S : Nat → Prop) (v0 v1 : Value) (at_ : Int) (w : World), rd S w [v0] cs → 0 ≤ at_ → at_ < (cs.length : Int) → at_ < (n : Int) →
    Calls Tryz.prog 35 #[.agg #[v0, v1], .int .i64 at_, .string path] w fun e w' => ∃ v', e = .returned (.tuple #[v', .bool (blameF cs path n at_).isSome]) ∧ Fresh w.heap.size w'.heap.size w' [v'] ((blameF cs path n at_).getD []) ∧ Below w.heap.size w w' := by
  induction n with
  | zero => intro S v0 v1 at_ w h0 h1 h2 h3; omega
  | succ n IH =>
    intro S v0 v1 at_ w h0 h1 h2 h3
    obtain ⟨a, cap, rfl, hs⟩ := rd_slice_elim (Rep.lt h0)
    have hi64 : I64 at_ := by unfold I64; omega
    have hB0 : Below w.heap.size w (w.alloc (.cells #[.slice a cs.length cap, v1] 32)) := ((Below.refl _ _).alloc (by simp <;> omega) _)
    have q0 : (w.alloc (.cells #[.slice a cs.length cap, v1] 32)).cell? ⟨w.heap.size, 0, none⟩ = some (.slice a cs.length cap) := by rw [cell_of_row _ _ 0 _ _ (0, 0) (heap_alloc_new _ _)]; rfl
    have q1 : (w.alloc (.cells #[.slice a cs.length cap, v1] 32)).cell? ⟨w.heap.size, 1, none⟩ = some v1 := by rw [cell_of_row _ _ 1 _ _ (0, 0) (heap_alloc_new _ _)]; rfl
    have htx := hT at_ h1 h2
    have hlen : ∀ (i : Int) (x : List ByteArray), 0 ≤ i → i < (cs.length : Int) → getT (treeAtC cs i) path = some x → x.length ≤ 10 := fun i x hi0 hi1 hx => by
      obtain ⟨f, hf, _, rfl⟩ := getT_mem hx
      exact hT i hi0 hi1 f hf
    have HLEN := Lib.hid hlen
    clear hlen
    go_enter Tryz.func35, Tryz.ntmps35
    go_wp2_with fail
    refine (tree_any _ _ cs _ _ (hs.keep hB0).rd h1 h2).mono ?_
    rintro e w1 ⟨vt, rfl, ht, hb1⟩
    have q0a := keepc q0 hb1
    have q1a := keepc q1 hb1
    have HB1 := hB0.trans (hb1.mono hB0.size)
    clear q0 q1 hB0 hb1
    cases hM : getT (treeAtC cs at_) path with
    | none =>
      have HN := Lib.hid (blame_none (n := n) hM)
      go_wp2_with fail
      refine (get_any _ _ path _ ht htx hM).mono ?_
      rintro e w2 ⟨vx, rfl, hX, hb2⟩
      go_wp2
      go_ret2
      exact ⟨.slice none 0 0, by rw [HN.out]; rfl, by rw [HN.out]; exact Fresh.nil _ _ _ (by decide), HB1.trans (hb2.mono HB1.size)⟩
    | some text =>
      have hx10 := HLEN.out at_ text h1 h2 hM
      have HM := Lib.hid hM
      go_wp2_with fail
      refine (get_any _ _ path _ ht htx hM).mono ?_
      rintro e w2 ⟨vx, rfl, hX, hb2⟩
      have hX : Fresh w1.heap.size w2.heap.size w2 [vx] text := hX
      obtain ⟨ax, cx, rfl, hXs⟩ := hX.shape
      have hXs := hXs.lt
      have q0b := keepc q0a hb2
      have q1b := keepc q1a hb2
      have HB2 := HB1.trans (hb2.mono HB1.size)
      have hle := hXs.le
      clear hM q0a q1a HB1 hb2 hX ht htx
      have hmk := slz_int.make text.length (by omega) (by unfold maxLen; omega)
      obtain ⟨wd, hwd, hfr, hBd, hsd⟩ := ints_zero w2 text.length (by omega)
      have HW := Lib.hid hwd
      have hg2 : w2.heap.size < wd.heap.size := by omega
      rw [← fillT_zero _ at_] at hfr
      clear hwd hsd
      go_wp2
      rw [← HW.out]
      clear hmk HW
      go_loopw [34] (fun i wr => (∃ k : Nat, k ≤ text.length ∧ i = .int .i64 k ∧ Fresh w2.heap.size (w2.heap.size + 1) wr [.slice (some ⟨w2.heap.size, 0, none⟩) text.length text.length] (fillT text.length k at_) ∧ w2.heap.size < wr.heap.size) ∧ Below w2.heap.size w2 wr) (fun i _ => text.length - (intOf i).toNat)
      case atStart => exact ⟨⟨0, by omega, rfl, hfr.one, hg2⟩, hBd⟩
      case round =>
        clear hfr hg2 hBd
        obtain ⟨⟨k, hk, rfl, hF, hg2⟩, hb⟩ := hrel
        by_cases hlt : k < text.length
        · have hfl := fillT_len (n := text.length) (k := k) (by omega) at_
          obtain ⟨⟨u, hu⟩, hfz, _, _⟩ := hF.there1 rfl (i := k) (by omega)
          have hF2 := (hF.set1 rfl (i := k) (by omega) (Fresh.leaf (m := w2.heap.size) (own_intm at_ hi64 wr)) (by omega)).one
          rw [fillT_set hlt] at hF2
          have hb2 := hb.setCell (p := ⟨w2.heap.size, k, none⟩) (Nat.le_refl _) (.int .i64 at_)
          have hs6 : (wr.setCell ⟨w2.heap.size, k, none⟩ (.int .i64 at_)).heap.size = wr.heap.size := by simp
          go_wp2
          go_roundw
          case rel => exact ⟨⟨k + 1, by omega, by go_num, hF2, by omega⟩, hb2⟩
          case measure => simp [intOf] <;> omega
        · obtain rfl : k = text.length := by omega
          rw [fillT_all] at hF
          have hb0 := HB2.trans (hb.mono HB2.size)
          have hgw := hg2
          have q0d := keepc q0b hb
          have q1d := keepc q1b hb
          have hXd := hXs.keep hb
          clear q0b q1b hg2
          cases hp : (cs.getD at_.toNat noCommit).parents with
          | nil =>
            have HN := Lib.hid (blame_root (n := n) HM.out hp)
            have hfirst : ((cs.getD at_.toNat noCommit).parents.head?).getD (-1) = -1 := by rw [hp]; rfl
            go_wp2_with fail
            refine (first_is _ _ cs at_ _ (hs.keep hb0).rd h1 h2 hfirst).mono ?_
            rintro e w3 ⟨rfl, hb3⟩
            have hF3 := hF.belowm (Nat.succ_le_of_lt hgw) hb3
            go_wp2
            go_ret2
            exact ⟨_, by rw [HN.out]; rfl, by rw [HN.out]; exact hF3.mono HB2.size (by have := hb3.size; omega), hb0.trans (hb3.mono hb0.size)⟩
          | cons p ps =>
            obtain ⟨hp0, hp1⟩ := par_first hP h1 h2 hp
            have hfirst : ((cs.getD at_.toNat noCommit).parents.head?).getD (-1) = p := by rw [hp]; rfl
            have hneg : decide (p < 0) = false := decide_eq_false (by omega)
            obtain ⟨m, rfl⟩ : ∃ m, n = m + 1 := ⟨n - 1, by omega⟩
            go_wp2_with fail
            refine (first_is _ _ cs at_ _ (hs.keep hb0).rd h1 h2 hfirst).mono ?_
            rintro e w3 ⟨rfl, hb3⟩
            have hF3 := hF.belowm (Nat.succ_le_of_lt hgw) hb3
            have q0e := keepc q0d hb3
            have q1e := keepc q1d hb3
            have hXe := hXd.keep (hb3.mono hb.size)
            have hb3' := hb.trans (hb3.mono hb.size)
            have hb03 := hb0.trans (hb3.mono hb0.size)
            have hs3 := hb3.size
            clear q0d q1d hXd hF hb3 hb hb0 hfirst
            have IHp := IH _ (.slice a cs.length cap) v1 p w3 (hs.keep hb03).rd hp0 (by omega) (by omega)
            cases ho : getT (treeAtC cs p) path with
            | none =>
              have HN := Lib.hid (blame_new (n := m + 1) HM.out hp ho)
              rw [blame_none ho] at IHp
              go_wp2_with fail
              refine IHp.mono ?_
              rintro e w4 ⟨vb, rfl, hBl, hb4⟩
              have hF4 := hF3.belowm (by omega) hb4
              go_wp2
              go_ret2
              exact ⟨_, by rw [HN.out]; rfl, by rw [HN.out]; exact hF4.mono HB2.size (by have := hb4.size; omega), hb03.trans (hb4.mono hb03.size)⟩
            | some old =>
              obtain ⟨l, hl, hll⟩ := blame_some (n := m) ho
              have ho10 := HLEN.out p old hp0 (by omega) ho
              have HN := Lib.hid (blame_old (n := m + 1) HM.out hp ho)
              rw [hl] at IHp HN
              go_wp2_with fail
              refine IHp.mono ?_
              rintro e w4 ⟨vb, rfl, hBl, hb4⟩
              have hBl : Fresh w3.heap.size w4.heap.size w4 [vb] l := hBl
              have hF4 := hF3.belowm (by omega) hb4
              have q0f := keepc q0e hb4
              have q1f := keepc q1e hb4
              have hXf := hXe.keep (hb4.mono hb3'.size)
              have hb4' := hb3'.trans (hb4.mono hb3'.size)
              have hb04 := hb03.trans (hb4.mono hb03.size)
              have hs4 := hb4.size
              clear q0e q1e hXe hF3 hb4 IHp
              go_wp2_with fail
              refine (tree_any _ _ cs p _ (hs.keep hb04).rd hp0 (by omega)).mono ?_
              rintro e w5 ⟨vt5, rfl, ht5, hb5⟩
              have hb5' := hb4'.trans (hb5.mono hb4'.size)
              have hb05 := hb04.trans (hb5.mono hb04.size)
              go_wp2_with fail
              refine (get_any _ _ path _ ht5 (hT p hp0 (by omega)) ho).mono ?_
              rintro e w6 ⟨vo, rfl, hO, hb6⟩
              have hO : Fresh w5.heap.size w6.heap.size w6 [vo] old := hO
              have hs5 := hb5.size
              have hs6 := hb6.size
              have hb6' := hb5'.trans (hb6.mono hb5'.size)
              have hX6 := (hXf.keep (hb5.mono hb4'.size)).keep (hb6.mono hb5'.size)
              go_wp2_with fail
              refine (match_any _ _ old text _ hO.rd hX6.rd ho10 hx10).mono ?_
              rintro e w7 ⟨vm, rfl, hMt, hb7⟩
              have hs7 := hb7.size
              have hb7' := hb6'.trans (hb7.mono hb6'.size)
              have hF7 := ((hF4.belowm (by omega) hb5).belowm (by omega) hb6).belowm (by omega) hb7
              have hBl7 := ((hBl.belowm (by omega) hb5).belowm (by omega) hb6).belowm (by omega) hb7
              have hml := matchT_len old text
              have HRG := Lib.hid (matchT_range old text)
              obtain ⟨ms, hms⟩ : ∃ ms, ms = matchT old text := ⟨_, rfl⟩
              have HRG : Hid (∀ k (hk : k < ms.length), ms[k] = -1 ∨ ∃ n : Nat, ms[k] = (n : Int) ∧ n < text.length) := by subst hms; exact HRG
              rw [← hms] at hMt hml HN
              obtain ⟨am, cm, hvm, hMs⟩ := hMt.shape
              subst hvm
              obtain ⟨ab, cb, hvb, hBs⟩ := hBl7.shape
              subst hvb
              have hMs : IsSlice (fun b => w2.heap.size < b) w7 am cm ms := hMs.mono (fun b hb => by omega)
              have hBs : IsSlice (fun b => w2.heap.size < b) w7 ab cb l := hBs.mono (fun b hb => by omega)
              have HN : Hid (blameF cs path (m + 1 + 1) at_ = some (putB l (List.replicate text.length at_) ms 0)) := HN
              have hg7 : w2.heap.size < w7.heap.size := by omega
              obtain ⟨zs, hzs⟩ : ∃ zs, zs = List.replicate text.length at_ := ⟨_, rfl⟩
              have hzl : zs.length = text.length := by rw [hzs]; simp
              rw [← hzs] at hF7 HN
              clear hms hMt hBl7 hBl hO ht5 hX6 hXf q0f q1f hF4 hb5 hb6 hb7 hb5' hb6' hb4' hb3' hzs hb04 hb05 hb03
              go_wp2
              go_loopw [70] (fun i wr => (∃ (k : Nat) (ys : List Int), k ≤ ms.length ∧ i = .int .i64 k ∧ ys.length = text.length ∧ Fresh w2.heap.size (w2.heap.size + 1) wr [.slice (some ⟨w2.heap.size, 0, none⟩) text.length text.length] ys ∧ IsSlice (fun b => w2.heap.size < b) wr am cm ms ∧ IsSlice (fun b => w2.heap.size < b) wr ab cb l ∧ w2.heap.size < wr.heap.size ∧ Hid (putB l zs ms 0 = putB l ys (ms.drop k) k)) ∧ Below w2.heap.size w2 wr) (fun i _ => ms.length - (intOf i).toNat)
              case atStart => exact ⟨⟨0, zs, by omega, rfl, hzl, hF7, hMs, hBs, hg7, rfl⟩, hb7'⟩
              case round =>
                clear hF7 hMs hBs hg7 hb7'
                obtain ⟨⟨k, ys, hk, rfl, hyl, hF, hMs, hBs, hg, HA⟩, hb⟩ := hrel
                by_cases hlt : k < ms.length
                · obtain ⟨g1, off1, hag1, hc1, _⟩ := hMs.int hlt
                  subst hag1
                  rcases HRG.out k hlt with he | ⟨j, he, hj⟩
                  · have HNX := Lib.hid (putB_no HA.out hlt he)
                    rw [he] at hc1
                    clear he
                    go_wp2
                    go_roundw
                    case rel => exact ⟨⟨k + 1, ys, by omega, by go_num, hyl, hF, hMs, hBs, hg, HNX.out⟩, hb⟩
                    case measure => simp [intOf] <;> omega
                  · have hkl : k < l.length := by omega
                    obtain ⟨g2, off2, hag2, hc2, hi2⟩ := hBs.int hkl
                    subst hag2
                    have HNX := Lib.hid (putB_in HA.out hlt he hkl)
                    rw [he] at hc1
                    obtain ⟨y, hy⟩ : ∃ y, y = l[k] := ⟨_, rfl⟩
                    rw [← hy] at hc2 hi2 HNX
                    obtain ⟨⟨u, hu⟩, hfz, _, _⟩ := hF.there1 rfl (i := j) (by omega)
                    have hF2 := (hF.set1 rfl (i := j) (by omega) (Fresh.leaf (m := w2.heap.size) (own_intm y hi2 wr)) (by omega)).one
                    have hb2 := hb.setCell (p := ⟨w2.heap.size, j, none⟩) (Nat.le_refl _) (.int .i64 y)
                    have hM2 := hMs.setCell (p := ⟨w2.heap.size, j, none⟩) (u := .int .i64 y) (Nat.lt_irrefl _)
                    have hB2 := hBs.setCell (p := ⟨w2.heap.size, j, none⟩) (u := .int .i64 y) (Nat.lt_irrefl _)
                    have hs6 : (wr.setCell ⟨w2.heap.size, j, none⟩ (.int .i64 y)).heap.size = wr.heap.size := by simp
                    have hjn : decide ((0 : Int) ≤ (j : Int)) = true := decide_eq_true (by omega)
                    clear he hy
                    go_wp2
                    go_roundw
                    case rel => exact ⟨⟨k + 1, ys.set j y, by omega, by go_num, by simpa using hyl, hF2, hM2, hB2, by omega, HNX.out⟩, hb2⟩
                    case measure => simp [intOf] <;> omega
                · have HE := Lib.hid (putB_end HA.out hlt)
                  go_wp2
                  go_ret2
                  exact ⟨_, by rw [HN.out]; rfl, by rw [HN.out, HE.out]; exact hF.mono HB2.size (by omega), HB2.trans (hb.mono HB2.size)⟩
end Go.Proofs.YthhmaclhggmneaaGreatDoor
namespace Go.Vc
theorem fill_snoc (k : Nat) (x : Int) : List.replicate k x ++ [x] = List.replicate (k + 1) x := (List.replicate_succ' ..).symm
end Go.Vc
namespace Go.Proofs.YthhmaclhggmneaaGreatDoor
open Go.RowKit Go.Vc
open Go.Vc.Rep (rd)
open Go.Vc.Own (own)

set_option maxHeartbeats 16000000 in
set_option maxRecDepth 100000 in
theorem l11Of_any (cs : List Commit) (path : ByteArray) (hP : parOk cs) (hn : cs.length ≤ 16) (hT : ∀ i : Int, 0 ≤ i → i < (cs.length : Int) → ∀ f, f ∈ treeAtC cs i → f.text.length ≤ 10) (hz : path.size ≤ 1048576) (n : Nat) :
    ∀ (S : Nat → Prop) (v0 v1 : Value) (at_ : Int) (w : World), rd S w [v0] cs → 0 ≤ at_ → at_ < (cs.length : Int) → at_ < (n : Int) →
    Calls Tryz.prog 31 #[.agg #[v0, v1], .int .i64 at_, .string path] w fun e w' => ∃ v', e = .returned v' ∧ Fresh w.heap.size w'.heap.size w' [v'] ((blameF cs path n at_).getD []) ∧ Below w.heap.size w w' := by
  induction n with
  | zero => intro S v0 v1 at_ w h0 h1 h2 h3; omega
  | succ n IH =>
    intro S v0 v1 at_ w h0 h1 h2 h3
    obtain ⟨a, cap, rfl, hs⟩ := rd_slice_elim (Rep.lt h0)
    have hi64 : I64 at_ := by unfold I64; omega
    obtain ⟨k0, rfl⟩ : ∃ k : Nat, at_ = (k : Int) := ⟨at_.toNat, by omega⟩
    have hk0 : k0 < cs.length := by omega
    have hB0 : Below w.heap.size w (w.alloc (.cells #[.slice a cs.length cap, v1] 32)) := ((Below.refl _ _).alloc (by simp <;> omega) _)
    have q0 : (w.alloc (.cells #[.slice a cs.length cap, v1] 32)).cell? ⟨w.heap.size, 0, none⟩ = some (.slice a cs.length cap) := by rw [cell_of_row _ _ 0 _ _ (0, 0) (heap_alloc_new _ _)]; rfl
    have q1 : (w.alloc (.cells #[.slice a cs.length cap, v1] 32)).cell? ⟨w.heap.size, 1, none⟩ = some v1 := by rw [cell_of_row _ _ 1 _ _ (0, 0) (heap_alloc_new _ _)]; rfl
    obtain ⟨g, off, ap, np, at2, nt, rfl, hc0, hc1, hc2, hpar, hz1, htr⟩ := hs.commit hk0
    have HTA : Hid (treeAtC cs (k0 : Int) = cs[k0].tree) := by show _ = _; unfold treeAtC; rw [Int.toNat_natCast, getD_com hk0]
    have HPA : Hid ((cs.getD (k0 : Int).toNat noCommit).parents = cs[k0].parents) := by show _ = _; rw [Int.toNat_natCast, getD_com hk0]
    have hlen : ∀ (i : Int) (x : List ByteArray), 0 ≤ i → i < (cs.length : Int) → getT (treeAtC cs i) path = some x → x.length ≤ 10 := fun i x hi0 hi1 hx => by
      obtain ⟨f, hf, _, rfl⟩ := getT_mem hx
      exact hT i hi0 hi1 f hf
    have HLEN := Lib.hid hlen
    obtain ⟨t0, ht0⟩ : ∃ t, t = cs[k0].tree := ⟨_, rfl⟩
    obtain ⟨ps0, hps0⟩ : ∃ t, t = cs[k0].parents := ⟨_, rfl⟩
    rw [← ht0] at hc2 htr HTA
    rw [← hps0] at hc0 hpar HPA
    have HC0 := Lib.hid hc0
    have hc2 := keepc hc2 hB0
    have hlp := hpar.le
    clear hlen ht0 hps0 hc0 hc1
    cases hM : getT t0 path with
    | none =>
      have HN := Lib.hid (blame_none (n := n) (cs := cs) (path := path) (at_ := (k0 : Int)) (by rw [HTA.out]; exact hM))
      have hE := Fresh.empty (β := Int) Nat.one_pos (w.alloc (.cells #[.slice (some ⟨g, off, none⟩) cs.length cap, v1] 32)).heap.size (w.alloc (.cells #[.slice (some ⟨g, off, none⟩) cs.length cap, v1] 32)) (Nat.le_refl _)
      have hE := hE.now.mono hB0.size (Nat.le_refl _)
      rw [show (w.alloc (.cells #[.slice (some ⟨g, off, none⟩) cs.length cap, v1] 32)).heap.size = w.heap.size + 1 by simp] at hE
      go_enter Tryz.func31, Tryz.ntmps31
      go_wp2_with fail
      refine (l4Get_any _ t0 path _ (htr.keep hB0).rd hM).mono ?_
      rintro e w2 ⟨vx, rfl, hX, rfl⟩
      go_wp2
      go_ret
      exact ⟨_, rfl, by rw [HN.out]; exact hE, hB0.alloc hB0.size _⟩
    | some text =>
      have HM : Hid (getT (treeAtC cs (k0 : Int)) path = some text) := by show _ = _; rw [HTA.out]; exact hM
      have hx10 := HLEN.out k0 text h1 h2 HM.out
      obtain ⟨wb, hwb⟩ : ∃ wb, wb = w.alloc (.cells #[.slice (some ⟨g, off, none⟩) cs.length cap, v1] 32) := ⟨_, rfl⟩
      have hc2r := hc2
      have q0r := q0
      rw [← hwb] at hB0 q0 q1 hc2
      have HWB := Lib.hid hwb
      have hE := Fresh.empty (β := Int) Nat.one_pos wb.heap.size wb (Nat.le_refl _)
      have hbE := (Below.refl wb.heap.size wb).alloc (Nat.le_refl _) (.cells #[] (Tid.tid Int))
      clear hwb
      go_enter Tryz.func31, Tryz.ntmps31
      go_wp2_with fail
      rw [← HWB.out]
      refine (l4Get_any _ t0 path _ (htr.keep hB0).rd hM).mono ?_
      rintro e w2 ⟨vx, rfl, hX, rfl⟩
      have hX : rd (fun b => b < w2.heap.size) w2 [vx] text := hX
      obtain ⟨ax, cx, hvx, hXs⟩ := rd_slice_elim hX
      subst hvx
      have hle := hXs.le
      clear hM HWB hX hc2 hc2r q0r
      go_wp2
      go_loopw [9, 10] (fun out i wr => (∃ (k : Nat) (ol : List Int), k ≤ text.length ∧ i = .int .i64 k ∧ ol = List.replicate k (k0 : Int) ∧ Fresh w2.heap.size wr.heap.size wr [out] ol) ∧ Below w2.heap.size w2 wr) (fun _ i _ => text.length - (intOf i).toNat)
      case atStart => exact ⟨⟨0, [], by omega, rfl, rfl, hE.now⟩, hbE⟩
      case round =>
        clear hE hbE
        obtain ⟨⟨k, ol, hk, rfl, hol, hF⟩, hb⟩ := hrel
        have HOLN := Lib.hid (show ol.length = k by rw [hol]; simp)
        have hoB : ol.length ≤ k := by rw [HOLN.out]; exact Nat.le_refl _
        have HOL := Lib.hid hol
        clear hol
        have hsz := hb.size
        obtain ⟨a2, c2, hv2, _⟩ := hF.shape
        subst hv2
        by_cases hlt : k < text.length
        · go_wp2_with (at_builtin; go_must (refine wpList_app_leaf slz_int.slt rfl (.tmp 38) (.tmp 40) rfl rfl (hF.alloc _) (by simp; omega) rfl rfl (lit_ints [(k0 : Int)] (heap_alloc_new _ _) (by simpa using hi64) (by unfold maxLen; simp)) (by simp; omega) (by unfold maxLen; simp; omega) ?_); intro a5 c5 w5 hG5)
          go_roundw
          case rel => exact ⟨⟨k + 1, ol ++ [(k0 : Int)], by omega, by go_num, by rw [HOL.out]; exact fill_snoc _ _, by have := hG5.fresh; simpa using this⟩, (hb.alloc hsz _).trans hG5.below⟩
          case measure => simp [intOf] <;> omega
        · have hkt : k = text.length := by omega
          have HOL : Hid (ol = List.replicate text.length (k0 : Int)) := by show _ = _; rw [HOL.out, hkt]
          have HOLT := Lib.hid (show ol.length = text.length by rw [HOLN.out, hkt])
          have hb0 := hB0.trans (hb.mono hB0.size)
          have q0d := keepc q0 hb
          have q1d := keepc q1 hb
          have hXd := hXs.keep hb
          have hcd := keepc HC0.out hb0
          clear q0 q1 hkt
          cases hp : ps0 with
          | nil =>
            have HN := Lib.hid (blame_root (n := n) HM.out (HPA.out.trans hp))
            rw [hp] at hcd
            have hd0 : (((([] : List Int).length : Nat) : Int) == 0) = true := rfl
            go_wp2
            go_ret
            exact ⟨_, rfl, by rw [HN.out, Option.getD_some, ← HOL.out]; exact hF.mono hB0.size (Nat.le_refl _), hb0⟩
          | cons p ps =>
            obtain ⟨hp0, hp1⟩ := par_first hP h1 h2 (HPA.out.trans hp)
            obtain ⟨pn, rfl⟩ : ∃ k : Nat, p = (k : Int) := ⟨p.toNat, by omega⟩
            have hpl : pn < cs.length := by omega
            have hd0 : ((ps0.length : Int) == 0) = false := by rw [hp, beq_eq_false_iff_ne, List.length_cons]; omega
            have hone : (0 : Int) < ps0.length := by rw [hp, List.length_cons]; omega
            obtain ⟨g2, off2, hag2, hd, hdi⟩ := (hpar.keep hb0).int (i := 0) (by rw [hp]; simp)
            subst hag2
            have hp00 : ps0[0]'(by rw [hp]; simp) = (pn : Int) := by simp [hp]
            rw [hp00, Nat.add_zero] at hd
            obtain ⟨g3, off3, ap3, np3, at3, nt3, he3, e0, e1, e2, _, _, etr⟩ := (hs.keep hb0).commit hpl
            obtain ⟨rfl, rfl⟩ : g = g3 ∧ off = off3 := by simpa using he3
            have HT3 : Hid (treeAtC cs (pn : Int) = cs[pn].tree) := by show _ = _; unfold treeAtC; rw [Int.toNat_natCast, getD_com hpl]
            obtain ⟨t3, ht3⟩ : ∃ t, t = cs[pn].tree := ⟨_, rfl⟩
            rw [← ht3] at e2 etr HT3
            obtain ⟨m, rfl⟩ : ∃ m, n = m + 1 := ⟨n - 1, by omega⟩
            have HPP := Lib.hid (HPA.out.trans hp)
            clear hdi hp00 he3 e0 e1 ht3 hp
            cases ho : getT t3 path with
            | none =>
              have HN := Lib.hid (blame_new (n := m + 1) HM.out HPP.out (by rw [HT3.out]; exact ho))
              go_wp2_with fail
              refine (l4Get_any _ t3 path _ etr.rd ho).mono ?_
              rintro e w4 ⟨vo, rfl, hO, rfl⟩
              go_wp2
              go_ret
              exact ⟨_, rfl, by rw [HN.out, Option.getD_some, ← HOL.out]; exact hF.mono hB0.size (Nat.le_refl _), hb0⟩
            | some old =>
              have ho2 : getT (treeAtC cs (pn : Int)) path = some old := by rw [HT3.out]; exact ho
              obtain ⟨l, hl, hll⟩ := blame_some (n := m) ho2
              have ho10 := HLEN.out pn old hp0 (by omega) ho2
              have HN := Lib.hid (blame_old (n := m + 1) HM.out HPP.out ho2)
              rw [hl] at HN
              go_wp2_with fail
              refine (l4Get_any _ t3 path _ etr.rd ho).mono ?_
              rintro e w4 ⟨vo, rfl, hO, rfl⟩
              have hO : rd (fun b => b < w4.heap.size) w4 [vo] old := Rep.lt hO
              have IHp := IH _ (.slice (some ⟨g, off, none⟩) cs.length cap) v1 (pn : Int) w4 (hs.keep hb0).rd hp0 (by omega) (by omega)
              rw [hl] at IHp
              go_wp2_with fail
              refine IHp.mono ?_
              rintro e w5 ⟨vb, rfl, hBl, hb5⟩
              have hBl : Fresh w4.heap.size w5.heap.size w5 [vb] l := hBl
              have hF5 := hF.belowm (Nat.le_refl _) hb5
              have hb5' := hb.trans (hb5.mono hb.size)
              have hX5 := hXd.keep (hb5.mono hb.size)
              have hO5 := Rep.keep hO hb5
              have hs5 := hb5.size
              go_wp2_with fail
              refine (l1Match_any _ _ old text _ hO5 hX5.rd ho10 hx10).mono ?_
              rintro e w7 ⟨vm, rfl, hMt, hb7⟩
              have hs7 := hb7.size
              have hb7' := hb5'.trans (hb7.mono hb5'.size)
              have hF7 := hF5.belowm (by omega) hb7
              have hBl7 := hBl.belowm (Nat.le_refl _) hb7
              have hml := matchT_len old text
              have HRG := Lib.hid (matchT_range old text)
              obtain ⟨ms, hms⟩ : ∃ ms, ms = matchT old text := ⟨_, rfl⟩
              have HRG : Hid (∀ k (hk : k < ms.length), ms[k] = -1 ∨ ∃ n : Nat, ms[k] = (n : Int) ∧ n < text.length) := by subst hms; exact HRG
              rw [← hms] at hMt hml HN
              obtain ⟨am, cm, hvm, hMs⟩ := hMt.shape
              subst hvm
              obtain ⟨ab, cb, hvb, hBs⟩ := hBl7.shape
              subst hvb
              obtain ⟨C, hC⟩ : ∃ C, C = w4.heap.size := ⟨_, rfl⟩
              have hMs : IsSlice (fun b => C ≤ b) w7 am cm ms := hMs.mono (fun b hb => by omega)
              have hBs : IsSlice (fun b => C ≤ b) w7 ab cb l := hBs.mono (fun b hb => by omega)
              have HN : Hid (blameF cs path (m + 1 + 1) (k0 : Int) = some (putB l (List.replicate text.length (k0 : Int)) ms 0)) := HN
              have hC7 : C ≤ w7.heap.size := by omega
              have hC2 : w2.heap.size ≤ C := by rw [hC]; exact hb.size
              have hF7 : Fresh w2.heap.size C w7 [.slice a2 ol.length c2] ol := by rw [hC]; exact hF7
              rw [← HOL.out] at HN
              clear hms hMt hBl7 hBl hO hO5 hX5 hF5 hb5 hb5' hb7 hC hF hXd q0d q1d hcd hd e2 etr hb0 hb IHp ho ho2 hl hone hd0
              go_wp2
              go_loopw [16] (fun i wr => (∃ (k : Nat) (ys : List Int), k ≤ ms.length ∧ i = .int .i64 k ∧ ys.length = text.length ∧ Fresh w2.heap.size C wr [.slice a2 ol.length c2] ys ∧ IsSlice (fun b => C ≤ b) wr am cm ms ∧ IsSlice (fun b => C ≤ b) wr ab cb l ∧ C ≤ wr.heap.size ∧ Hid (putB l ol ms 0 = putB l ys (ms.drop k) k)) ∧ Below w2.heap.size w2 wr) (fun i _ => ms.length - (intOf i).toNat)
              case atStart => exact ⟨⟨0, ol, by omega, rfl, HOLT.out, hF7, hMs, hBs, hC7, rfl⟩, hb7'⟩
              case round =>
                clear hF7 hMs hBs hC7 hb7'
                obtain ⟨⟨k, ys, hk, rfl, hyl, hF, hMs, hBs, hg, HA⟩, hb⟩ := hrel
                by_cases hlt : k < ms.length
                · obtain ⟨g1, off1, hag1, hc1, _⟩ := hMs.int hlt
                  subst hag1
                  rcases HRG.out k hlt with he | ⟨j, he, hj⟩
                  · have HNX := Lib.hid (putB_no HA.out hlt he)
                    rw [he] at hc1
                    clear he
                    go_wp2
                    go_roundw
                    case rel => exact ⟨⟨k + 1, ys, by omega, by go_num, hyl, hF, hMs, hBs, hg, HNX.out⟩, hb⟩
                    case measure => simp [intOf] <;> omega
                  · have hkl : k < l.length := by omega
                    obtain ⟨g5, off5, hag5, hc5, hi5⟩ := hBs.int hkl
                    subst hag5
                    have HNX := Lib.hid (putB_in HA.out hlt he hkl)
                    rw [he] at hc1
                    obtain ⟨y, hy⟩ : ∃ y, y = l[k] := ⟨_, rfl⟩
                    rw [← hy] at hc5 hi5 HNX
                    obtain ⟨gz, hgz, hz0, hz1⟩ := hF.addr (by omega)
                    subst hgz
                    obtain ⟨⟨u, hu⟩, hfz, _, _⟩ := hF.there1 rfl (i := j) (by omega)
                    have hF2 := (hF.drew.set1 rfl (i := j) (by omega) (u := .int .i64 y) (y := y) (Fresh.leaf (m := C) (own_intm y hi5 _)) hC2).one.mono hz0 hz1
                    have hb2 := hb.drew.setCell (p := ⟨gz, j, none⟩) hz0 (.int .i64 y)
                    have hM2 := hMs.drew.setCell (p := ⟨gz, j, none⟩) (u := .int .i64 y) (by show ¬ C ≤ gz; omega)
                    have hB2 := hBs.drew.setCell (p := ⟨gz, j, none⟩) (u := .int .i64 y) (by show ¬ C ≤ gz; omega)
                    have hs6 : (wr.drew.setCell ⟨gz, j, none⟩ (.int .i64 y)).heap.size = wr.heap.size := by simp
                    have hjn : decide ((0 : Int) ≤ (j : Int)) = true := decide_eq_true (by omega)
                    have hjo : j < ol.length := by rw [HOLT.out]; exact hj
                    clear he hy
                    go_wp2_with fail
                    go_region_law (fail)
                    all_goals
                      go_wp2
                      go_roundw
                      case rel => exact ⟨⟨k + 1, ys.set j y, by omega, by go_num, by simpa using hyl, hF2, hM2, hB2, by first | omega | (simp; exact hg) | (simp; omega), HNX.out⟩, hb2⟩
                      case measure => simp [intOf] <;> omega
                · have HE := Lib.hid (putB_end HA.out hlt)
                  go_wp2
                  go_ret
                  exact ⟨_, rfl, by rw [HN.out, HE.out]; exact hF.mono hB0.size hg, hB0.trans (hb.mono hB0.size)⟩
end Go.Proofs.YthhmaclhggmneaaGreatDoor
namespace Go.Proofs.YthhmaclhggmneaaGreatDoor
open Go.RowKit Go.Vc
open Go.Vc.Rep (rd)
open Go.Vc.Own (own)
theorem repo_texts {r : Repo} (h : repoB r = true) : ∀ i : Int, 0 ≤ i → i < (r.commits.length : Int) → ∀ f, f ∈ treeAtC r.commits i → f.text.length ≤ 10 := fun i h0 h1 f hf => by
  have ht := repo_treeC h h0 h1
  obtain ⟨k, hk, rfl⟩ := List.getElem_of_mem hf
  unfold treeB at ht
  rw [Bool.and_eq_true] at ht
  exact textB_len (treeAt_path hk (of_decide_eq_true ht.2 k hk)).2

set_option maxHeartbeats 8000000 in
set_option maxRecDepth 100000 in
theorem implBlameOf {S T : Nat → Prop} (r : Repo) (v0 v1 : Value) (at_ : Int) (path : ByteArray) (w : World) (h0 : rd S w [v0] r.commits) (h1 : rd T w [v1] r.heads) (hi : I64 at_) (hz : path.size ≤ 1048576) (hS : shortR r) (hM : ML w) :
    Calls Tryz.prog 18 #[.agg #[v0, v1], .int .i64 at_, .string path] w fun e w' => ∃ v', e = .returned v' ∧ Fresh w.heap.size w'.heap.size w' [v'] (blameOf r at_ path) ∧ Below w.heap.size w w' := by
  have h0 := Rep.lt h0
  have h1 := Rep.lt h1
  have hB0 : Below w.heap.size w (w.alloc (.cells #[v0, v1] 32)) := ((Below.refl _ _).alloc (by simp <;> omega) _)
  have q0 : (w.alloc (.cells #[v0, v1] 32)).cell? ⟨w.heap.size, 0, none⟩ = some v0 := by rw [cell_of_row _ _ 0 _ _ (0, 0) (heap_alloc_new _ _)]; rfl
  have q1 : (w.alloc (.cells #[v0, v1] 32)).cell? ⟨w.heap.size, 1, none⟩ = some v1 := by rw [cell_of_row _ _ 1 _ _ (0, 0) (heap_alloc_new _ _)]; rfl
  have hB1 := hB0.alloc hB0.size (.cells #[.int .i64 at_] 3)
  have HR : Hid (blameOf r at_ path = if (repoB r && anyB r.commits.length [at_]) = true then (blameF r.commits path r.commits.length at_).getD [] else []) := rfl
  have hBl := (Below.refl (w.alloc (.cells #[v0, v1] 32)).heap.size (w.alloc (.cells #[v0, v1] 32))).alloc (Nat.le_refl _) (.cells #[.int .i64 at_] 3)
  have q0' := keepc q0 hBl
  have q1' := keepc q1 hBl
  have hlit := heap_alloc_new (w.alloc (.cells #[v0, v1] 32)) (.cells #[.int .i64 at_] 3)
  have hsz : (w.alloc (.cells #[v0, v1] 32)).heap.size = w.heap.size + 1 := by simp
  rw [hsz] at hlit
  have hu : rd (fun b => b = w.heap.size + 1) ((w.alloc (.cells #[v0, v1] 32)).alloc (.cells #[.int .i64 at_] 3)) [.slice (some ⟨w.heap.size + 1, 0, none⟩) 1 1] [at_] := (lit_ints [at_] hlit (by simpa using hi) (by unfold maxLen; simp)).rd
  clear hlit hsz
  cases hq : (repoB r && anyB r.commits.length [at_]) with
  | false =>
    rw [hq] at HR
    go_enter Tryz.func18, Tryz.ntmps18
    go_wp2_with fail
    refine (are_is _ _ _ r [at_] _ (Rep.keep h0 hB1) (Rep.keep h1 hB1) hu hS (hM.keep hB1) hq).mono ?_
    rintro e w1 ⟨rfl, hb1⟩
    go_wp2
    go_ret
    exact ⟨_, rfl, by rw [HR.out]; exact Fresh.nil _ _ _ (by decide), hB1.trans (hb1.mono hB1.size)⟩
  | true =>
    rw [hq] at HR
    have hr : repoB r = true := by rw [Bool.and_eq_true] at hq; exact hq.1
    have hat : 0 ≤ at_ ∧ at_ < (r.commits.length : Int) := by
      rw [Bool.and_eq_true] at hq
      exact any_at hq.2 (k := 0) (by simp)
    have hPar := repo_par hr
    have hfew := repo_le hr
    have hTx := repo_texts hr
    go_enter Tryz.func18, Tryz.ntmps18
    go_wp2_with fail
    refine (are_is _ _ _ r [at_] _ (Rep.keep h0 hB1) (Rep.keep h1 hB1) hu hS (hM.keep hB1) hq).mono ?_
    rintro e w1 ⟨rfl, hb1⟩
    have q0 := keepc q0' hb1
    have q1 := keepc q1' hb1
    have HB := hB1.trans (hb1.mono hB1.size)
    go_wp2_with fail
    refine (blame_any r.commits path hPar hfew hTx hz r.commits.length _ _ _ at_ _ (Rep.keep h0 HB) hat.1 hat.2 hat.2).mono ?_
    rintro e w2 ⟨v2, rfl, hF, hb2⟩
    go_wp2
    go_ret
    exact ⟨_, rfl, by rw [HR.out]; exact hF.mono HB.size (Nat.le_refl _), HB.trans (hb2.mono HB.size)⟩

set_option maxHeartbeats 8000000 in
set_option maxRecDepth 100000 in
theorem specBlameOf {S T : Nat → Prop} (r : Repo) (v0 v1 : Value) (at_ : Int) (path : ByteArray) (w : World) (h0 : rd S w [v0] r.commits) (h1 : rd T w [v1] r.heads) (hi : I64 at_) (hz : path.size ≤ 1048576) (hS : shortR r) (hM : ML w) :
    Calls Tryz.prog 15 #[.agg #[v0, v1], .int .i64 at_, .string path] w fun e w' => ∃ v', e = .returned v' ∧ Fresh w.heap.size w'.heap.size w' [v'] (blameOf r at_ path) ∧ Below w.heap.size w w' := by
  have h0 := Rep.lt h0
  have h1 := Rep.lt h1
  obtain ⟨a, cap, rfl, hs⟩ := rd_slice_elim h0
  have hle := hs.le
  have hB0 : Below w.heap.size w (w.alloc (.cells #[.slice a r.commits.length cap, v1] 32)) := ((Below.refl _ _).alloc (by simp <;> omega) _)
  have q0 : (w.alloc (.cells #[.slice a r.commits.length cap, v1] 32)).cell? ⟨w.heap.size, 0, none⟩ = some (.slice a r.commits.length cap) := by rw [cell_of_row _ _ 0 _ _ (0, 0) (heap_alloc_new _ _)]; rfl
  have q1 : (w.alloc (.cells #[.slice a r.commits.length cap, v1] 32)).cell? ⟨w.heap.size, 1, none⟩ = some v1 := by rw [cell_of_row _ _ 1 _ _ (0, 0) (heap_alloc_new _ _)]; rfl
  have HR : Hid (blameOf r at_ path = if (repoB r && withinB at_ 0 ((r.commits.length : Int) - 1)) = true then (blameF r.commits path r.commits.length at_).getD [] else []) := by show _ = _; unfold blameOf; rw [any_one]
  cases hr : repoB r with
  | false =>
    rw [hr] at HR
    go_enter Tryz.func15, Tryz.ntmps15
    go_wp2_with fail
    refine (l7Ok_is _ _ r _ (Rep.keep h0 hB0) (Rep.keep h1 hB0) hr).mono ?_
    rintro e w1 ⟨rfl, hb1⟩
    go_wp2
    go_ret
    exact ⟨_, rfl, by rw [HR.out]; exact Fresh.nil _ _ _ (by decide), hB0.trans (hb1.mono hB0.size)⟩
  | true =>
    rw [hr] at HR
    have hfew := repo_le hr
    have hPar := repo_par hr
    have hTx := repo_texts hr
    go_enter Tryz.func15, Tryz.ntmps15
    go_wp2_with fail
    refine (l7Ok_is _ _ r _ (Rep.keep h0 hB0) (Rep.keep h1 hB0) hr).mono ?_
    rintro e w1 ⟨rfl, hb1⟩
    clear hr
    have q0 := keepc q0 hb1
    have q1 := keepc q1 hb1
    have HB := hB0.trans (hb1.mono hB0.size)
    cases hw : withinB at_ 0 ((r.commits.length : Int) - 1) with
    | false =>
      rw [hw] at HR
      go_wp2_with (go_at_call 30; with_reducible refine (l1In_is _ _ _ _ hw).mono ?_; rintro e w3 ⟨rfl, rfl⟩)
      go_ret
      exact ⟨_, rfl, by rw [HR.out]; exact Fresh.nil _ _ _ (by decide), HB⟩
    | true =>
      rw [hw] at HR
      have hat : 0 ≤ at_ ∧ at_ < (r.commits.length : Int) := by
        simp only [withinB, Bool.and_eq_true, decide_eq_true_eq] at hw
        omega
      go_wp2_with (go_at_call 30; with_reducible refine (l1In_is _ _ _ _ hw).mono ?_; rintro e w3 ⟨rfl, rfl⟩)
      go_wp2_with fail
      refine (l11Of_any r.commits path hPar hfew hTx hz r.commits.length _ _ _ at_ _ (Rep.keep h0 HB) hat.1 hat.2 hat.2).mono ?_
      rintro e w2 ⟨v2, rfl, hF, hb2⟩
      go_wp2
      go_ret
      exact ⟨_, rfl, by rw [HR.out]; exact hF.mono HB.size (Nat.le_refl _), HB.trans (hb2.mono HB.size)⟩
end Go.Proofs.YthhmaclhggmneaaGreatDoor
