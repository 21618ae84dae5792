/-
  Walks: which commit wrote each line, as the program has it.
-/
import Derived.Test.YtmblockojnaffaaDoorWGet
import Derived.Test.YtmblockojnaffaaDoorWTouch
import Derived.Test.YtmblockojnaffaaDoorWM2
import Derived.Test.YtmblockojnaffaaDoorPlBLine
set_option linter.unusedVariables false
namespace Go.Vc
def fillT (n k : Nat) (x : Int) : List Int := List.replicate k x ++ List.replicate (n - k) 0
theorem fillT_len {n k : Nat} (h : k ≤ n) (x : Int) : (fillT n k x).length = n := by simp [fillT]; omega
theorem fillT_zero (n : Nat) (x : Int) : fillT n 0 x = List.replicate n 0 := by simp [fillT]
theorem fillT_all (n : Nat) (x : Int) : fillT n n x = List.replicate n x := by simp [fillT]
theorem fillT_set {n k : Nat} (h : k < n) (x : Int) : (fillT n k x).set k x = fillT n (k + 1) x := by
  unfold fillT
  rw [List.set_append_right _ _ (by simp), List.length_replicate, Nat.sub_self, show n - k = (n - (k + 1)) + 1 by omega, List.replicate_succ, List.set_cons_zero, List.replicate_succ', List.append_assoc]
  rfl
theorem incM_range {hi : Nat} : ∀ {ms : List Int} {lo : Nat}, incM hi lo ms → ∀ k (hk : k < ms.length), ms[k] = -1 ∨ ∃ n : Nat, ms[k] = (n : Int) ∧ n < hi
  | [], _, _, k, hk => absurd hk (by simp)
  | m :: ms, lo, h, 0, _ => by
    rcases incM_at (ms := m :: ms) (k := 0) h (by simp) with ⟨h1, _⟩ | ⟨n, h1, _, h3, _⟩
    · exact .inl h1
    · exact .inr ⟨n, h1, h3⟩
  | m :: ms, lo, h, k + 1, hk => by
    have hms : ∃ lo', incM hi lo' ms := by
      rcases incM_at (ms := m :: ms) (k := 0) h (by simp) with ⟨_, h2⟩ | ⟨n, _, _, _, h4⟩
      · exact ⟨_, by simpa using h2⟩
      · exact ⟨_, by simpa using h4⟩
    obtain ⟨lo', hm'⟩ := hms
    exact incM_range hm' k (by simpa using hk)
theorem matchT_range (old text : List ByteArray) (k : Nat) (hk : k < (matchT old text).length) : (matchT old text)[k] = -1 ∨ ∃ n : Nat, (matchT old text)[k] = (n : Int) ∧ n < text.length := incM_range (mt_inc text old 0) k hk
end Go.Vc
namespace Go.Proofs.YtmblockojnaffaaDoor
open Go.RowKit Go.Vc
open Go.Vc.Rep (rd)
open Go.Vc.Own (own)
/-- a row of ints, all zero -/
theorem ints_zero (wb : World) (n : Nat) (hn : n ≤ 1000) :
    ∃ wd, wd = wb.alloc (.cells (madeCells #[Value.int .i64 0] (n * Rep.sz Int)) (Tid.tid Int)) ∧
      Fresh wb.heap.size wd.heap.size wd [.slice (some ⟨wb.heap.size, 0, none⟩) n n] (List.replicate n (0 : Int)) ∧ Below wb.heap.size wb wd ∧ wd.heap.size = wb.heap.size + 1 := by
  have hfr := (Fresh.made (w := wb) slz_int.hz slz_int.pos wb.heap.size n (by unfold maxLen; omega) (Nat.le_refl _)).now
  have hzr : List.replicate n (Zr.zr : Int) = List.replicate n 0 := rfl
  have hcz : (Value.int .i64 0).cells = #[Value.int .i64 0] := rfl
  rw [hzr, hcz] at hfr
  exact ⟨_, rfl, hfr, (Below.refl _ _).alloc (Nat.le_refl _) _, by simp⟩

set_option maxHeartbeats 16000000 in
set_option maxRecDepth 100000 in
theorem blame_any (cs : List Commit) (path : ByteArray) (hP : parOk cs) (hn : cs.length ≤ 16) (hT : ∀ i : Int, 0 ≤ i → i < (cs.length : Int) → ∀ f, f ∈ treeAtC cs i → f.text.length ≤ 10) (hz : path.size ≤ 1048576) (n : Nat) :
    ∀ (S : Nat → Prop) (v0 v1 : Value) (at_ : Int) (w : World), rd S w [v0] cs → 0 ≤ at_ → at_ < (cs.length : Int) → at_ < (n : Int) →
    Calls Tryd.prog 81 #[.agg #[v0, v1], .int .i64 at_, .string path] w fun e w' => ∃ v', e = .returned (.tuple #[v', .bool (blameF cs path n at_).isSome]) ∧ Fresh w.heap.size w'.heap.size w' [v'] ((blameF cs path n at_).getD []) ∧ Below w.heap.size w w' := by
  induction n with
  | zero => intro S v0 v1 at_ w h0 h1 h2 h3; omega
  | succ n IH =>
    intro S v0 v1 at_ w h0 h1 h2 h3
    obtain ⟨a, cap, rfl, hs⟩ := rd_slice_elim (Rep.lt h0)
    have hi64 : I64 at_ := by unfold I64; omega
    have hB0 : Below w.heap.size w (w.alloc (.cells #[.slice a cs.length cap, v1] 32)) := ((Below.refl _ _).alloc (by simp <;> omega) _)
    have q0 : (w.alloc (.cells #[.slice a cs.length cap, v1] 32)).cell? ⟨w.heap.size, 0, none⟩ = some (.slice a cs.length cap) := by rw [cell_of_row _ _ 0 _ _ (0, 0) (heap_alloc_new _ _)]; rfl
    have q1 : (w.alloc (.cells #[.slice a cs.length cap, v1] 32)).cell? ⟨w.heap.size, 1, none⟩ = some v1 := by rw [cell_of_row _ _ 1 _ _ (0, 0) (heap_alloc_new _ _)]; rfl
    have htx := hT at_ h1 h2
    have hlen : ∀ (i : Int) (x : List ByteArray), 0 ≤ i → i < (cs.length : Int) → getT (treeAtC cs i) path = some x → x.length ≤ 10 := fun i x hi0 hi1 hx => by
      obtain ⟨f, hf, _, rfl⟩ := getT_mem hx
      exact hT i hi0 hi1 f hf
    have HLEN := Lib.hid hlen
    clear hlen
    go_enter Tryd.func81, Tryd.ntmps81
    go_wp2_with fail
    refine (tree_any _ _ cs _ _ (hs.keep hB0).rd h1 h2).mono ?_
    rintro e w1 ⟨vt, rfl, ht, hb1⟩
    have q0a := keepc q0 hb1
    have q1a := keepc q1 hb1
    have HB1 := hB0.trans (hb1.mono hB0.size)
    clear q0 q1 hB0 hb1
    cases hM : getT (treeAtC cs at_) path with
    | none =>
      have HN := Lib.hid (blame_none (n := n) hM)
      go_wp2_with fail
      refine (get_any _ _ path _ ht htx hM).mono ?_
      rintro e w2 ⟨vx, rfl, hX, hb2⟩
      go_wp2
      go_ret2
      exact ⟨.slice none 0 0, by rw [HN.out]; rfl, by rw [HN.out]; exact Fresh.nil _ _ _ (by decide), HB1.trans (hb2.mono HB1.size)⟩
    | some text =>
      have hx10 := HLEN.out at_ text h1 h2 hM
      have HM := Lib.hid hM
      go_wp2_with fail
      refine (get_any _ _ path _ ht htx hM).mono ?_
      rintro e w2 ⟨vx, rfl, hX, hb2⟩
      have hX : Fresh w1.heap.size w2.heap.size w2 [vx] text := hX
      obtain ⟨ax, cx, rfl, hXs⟩ := hX.shape
      have hXs := hXs.lt
      have q0b := keepc q0a hb2
      have q1b := keepc q1a hb2
      have HB2 := HB1.trans (hb2.mono HB1.size)
      have hle := hXs.le
      clear hM q0a q1a HB1 hb2 hX ht htx
      have hmk := slz_int.make text.length (by omega) (by unfold maxLen; omega)
      obtain ⟨wd, hwd, hfr, hBd, hsd⟩ := ints_zero w2 text.length (by omega)
      have HW := Lib.hid hwd
      have hg2 : w2.heap.size < wd.heap.size := by omega
      rw [← fillT_zero _ at_] at hfr
      clear hwd hsd
      go_wp2
      rw [← HW.out]
      clear hmk HW
      go_loopw [34] (fun i wr => (∃ k : Nat, k ≤ text.length ∧ i = .int .i64 k ∧ Fresh w2.heap.size (w2.heap.size + 1) wr [.slice (some ⟨w2.heap.size, 0, none⟩) text.length text.length] (fillT text.length k at_) ∧ w2.heap.size < wr.heap.size) ∧ Below w2.heap.size w2 wr) (fun i _ => text.length - (intOf i).toNat)
      case atStart => exact ⟨⟨0, by omega, rfl, hfr.one, hg2⟩, hBd⟩
      case round =>
        clear hfr hg2 hBd
        obtain ⟨⟨k, hk, rfl, hF, hg2⟩, hb⟩ := hrel
        by_cases hlt : k < text.length
        · have hfl := fillT_len (n := text.length) (k := k) (by omega) at_
          obtain ⟨⟨u, hu⟩, hfz, _, _⟩ := hF.there1 rfl (i := k) (by omega)
          have hF2 := (hF.set1 rfl (i := k) (by omega) (Fresh.leaf (m := w2.heap.size) (own_intm at_ hi64 wr)) (by omega)).one
          rw [fillT_set hlt] at hF2
          have hb2 := hb.setCell (p := ⟨w2.heap.size, k, none⟩) (Nat.le_refl _) (.int .i64 at_)
          have hs6 : (wr.setCell ⟨w2.heap.size, k, none⟩ (.int .i64 at_)).heap.size = wr.heap.size := by simp
          go_wp2
          go_roundw
          case rel => exact ⟨⟨k + 1, by omega, by go_num, hF2, by omega⟩, hb2⟩
          case measure => simp [intOf] <;> omega
        · obtain rfl : k = text.length := by omega
          rw [fillT_all] at hF
          have hb0 := HB2.trans (hb.mono HB2.size)
          have hgw := hg2
          have q0d := keepc q0b hb
          have q1d := keepc q1b hb
          have hXd := hXs.keep hb
          clear q0b q1b hg2
          cases hp : (cs.getD at_.toNat noCommit).parents with
          | nil =>
            have HN := Lib.hid (blame_root (n := n) HM.out hp)
            have hfirst : ((cs.getD at_.toNat noCommit).parents.head?).getD (-1) = -1 := by rw [hp]; rfl
            go_wp2_with fail
            refine (first_is _ _ cs at_ _ (hs.keep hb0).rd h1 h2 hfirst).mono ?_
            rintro e w3 ⟨rfl, hb3⟩
            have hF3 := hF.belowm (Nat.succ_le_of_lt hgw) hb3
            go_wp2
            go_ret2
            exact ⟨_, by rw [HN.out]; rfl, by rw [HN.out]; exact hF3.mono HB2.size (by have := hb3.size; omega), hb0.trans (hb3.mono hb0.size)⟩
          | cons p ps =>
            obtain ⟨hp0, hp1⟩ := par_first hP h1 h2 hp
            have hfirst : ((cs.getD at_.toNat noCommit).parents.head?).getD (-1) = p := by rw [hp]; rfl
            have hneg : decide (p < 0) = false := decide_eq_false (by omega)
            obtain ⟨m, rfl⟩ : ∃ m, n = m + 1 := ⟨n - 1, by omega⟩
            go_wp2_with fail
            refine (first_is _ _ cs at_ _ (hs.keep hb0).rd h1 h2 hfirst).mono ?_
            rintro e w3 ⟨rfl, hb3⟩
            have hF3 := hF.belowm (Nat.succ_le_of_lt hgw) hb3
            have q0e := keepc q0d hb3
            have q1e := keepc q1d hb3
            have hXe := hXd.keep (hb3.mono hb.size)
            have hb3' := hb.trans (hb3.mono hb.size)
            have hb03 := hb0.trans (hb3.mono hb0.size)
            have hs3 := hb3.size
            clear q0d q1d hXd hF hb3 hb hb0 hfirst
            have IHp := IH _ (.slice a cs.length cap) v1 p w3 (hs.keep hb03).rd hp0 (by omega) (by omega)
            cases ho : getT (treeAtC cs p) path with
            | none =>
              have HN := Lib.hid (blame_new (n := m + 1) HM.out hp ho)
              rw [blame_none ho] at IHp
              go_wp2_with fail
              refine IHp.mono ?_
              rintro e w4 ⟨vb, rfl, hBl, hb4⟩
              have hF4 := hF3.belowm (by omega) hb4
              go_wp2
              go_ret2
              exact ⟨_, by rw [HN.out]; rfl, by rw [HN.out]; exact hF4.mono HB2.size (by have := hb4.size; omega), hb03.trans (hb4.mono hb03.size)⟩
            | some old =>
              obtain ⟨l, hl, hll⟩ := blame_some (n := m) ho
              have ho10 := HLEN.out p old hp0 (by omega) ho
              have HN := Lib.hid (blame_old (n := m + 1) HM.out hp ho)
              rw [hl] at IHp HN
              go_wp2_with fail
              refine IHp.mono ?_
              rintro e w4 ⟨vb, rfl, hBl, hb4⟩
              have hBl : Fresh w3.heap.size w4.heap.size w4 [vb] l := hBl
              have hF4 := hF3.belowm (by omega) hb4
              have q0f := keepc q0e hb4
              have q1f := keepc q1e hb4
              have hXf := hXe.keep (hb4.mono hb3'.size)
              have hb4' := hb3'.trans (hb4.mono hb3'.size)
              have hb04 := hb03.trans (hb4.mono hb03.size)
              have hs4 := hb4.size
              clear q0e q1e hXe hF3 hb4 IHp
              go_wp2_with fail
              refine (tree_any _ _ cs p _ (hs.keep hb04).rd hp0 (by omega)).mono ?_
              rintro e w5 ⟨vt5, rfl, ht5, hb5⟩
              have hb5' := hb4'.trans (hb5.mono hb4'.size)
              have hb05 := hb04.trans (hb5.mono hb04.size)
              go_wp2_with fail
              refine (get_any _ _ path _ ht5 (hT p hp0 (by omega)) ho).mono ?_
              rintro e w6 ⟨vo, rfl, hO, hb6⟩
              have hO : Fresh w5.heap.size w6.heap.size w6 [vo] old := hO
              have hs5 := hb5.size
              have hs6 := hb6.size
              have hb6' := hb5'.trans (hb6.mono hb5'.size)
              have hX6 := (hXf.keep (hb5.mono hb4'.size)).keep (hb6.mono hb5'.size)
              go_wp2_with fail
              refine (match_any _ _ old text _ hO.rd hX6.rd ho10 hx10).mono ?_
              rintro e w7 ⟨vm, rfl, hMt, hb7⟩
              have hs7 := hb7.size
              have hb7' := hb6'.trans (hb7.mono hb6'.size)
              have hF7 := ((hF4.belowm (by omega) hb5).belowm (by omega) hb6).belowm (by omega) hb7
              have hBl7 := ((hBl.belowm (by omega) hb5).belowm (by omega) hb6).belowm (by omega) hb7
              have hml := matchT_len old text
              have HRG := Lib.hid (matchT_range old text)
              obtain ⟨ms, hms⟩ : ∃ ms, ms = matchT old text := ⟨_, rfl⟩
              have HRG : Hid (∀ k (hk : k < ms.length), ms[k] = -1 ∨ ∃ n : Nat, ms[k] = (n : Int) ∧ n < text.length) := by subst hms; exact HRG
              rw [← hms] at hMt hml HN
              obtain ⟨am, cm, hvm, hMs⟩ := hMt.shape
              subst hvm
              obtain ⟨ab, cb, hvb, hBs⟩ := hBl7.shape
              subst hvb
              have hMs : IsSlice (fun b => w2.heap.size < b) w7 am cm ms := hMs.mono (fun b hb => by omega)
              have hBs : IsSlice (fun b => w2.heap.size < b) w7 ab cb l := hBs.mono (fun b hb => by omega)
              have HN : Hid (blameF cs path (m + 1 + 1) at_ = some (putB l (List.replicate text.length at_) ms 0)) := HN
              have hg7 : w2.heap.size < w7.heap.size := by omega
              obtain ⟨zs, hzs⟩ : ∃ zs, zs = List.replicate text.length at_ := ⟨_, rfl⟩
              have hzl : zs.length = text.length := by rw [hzs]; simp
              rw [← hzs] at hF7 HN
              clear hms hMt hBl7 hBl hO ht5 hX6 hXf q0f q1f hF4 hb5 hb6 hb7 hb5' hb6' hb4' hb3' hzs hb04 hb05 hb03
              go_wp2
              go_loopw [70] (fun i wr => (∃ (k : Nat) (ys : List Int), k ≤ ms.length ∧ i = .int .i64 k ∧ ys.length = text.length ∧ Fresh w2.heap.size (w2.heap.size + 1) wr [.slice (some ⟨w2.heap.size, 0, none⟩) text.length text.length] ys ∧ IsSlice (fun b => w2.heap.size < b) wr am cm ms ∧ IsSlice (fun b => w2.heap.size < b) wr ab cb l ∧ w2.heap.size < wr.heap.size ∧ Hid (putB l zs ms 0 = putB l ys (ms.drop k) k)) ∧ Below w2.heap.size w2 wr) (fun i _ => ms.length - (intOf i).toNat)
              case atStart => exact ⟨⟨0, zs, by omega, rfl, hzl, hF7, hMs, hBs, hg7, rfl⟩, hb7'⟩
              case round =>
                clear hF7 hMs hBs hg7 hb7'
                obtain ⟨⟨k, ys, hk, rfl, hyl, hF, hMs, hBs, hg, HA⟩, hb⟩ := hrel
                by_cases hlt : k < ms.length
                · obtain ⟨g1, off1, hag1, hc1, _⟩ := hMs.int hlt
                  subst hag1
                  rcases HRG.out k hlt with he | ⟨j, he, hj⟩
                  · have HNX := Lib.hid (putB_no HA.out hlt he)
                    rw [he] at hc1
                    clear he
                    go_wp2
                    go_roundw
                    case rel => exact ⟨⟨k + 1, ys, by omega, by go_num, hyl, hF, hMs, hBs, hg, HNX.out⟩, hb⟩
                    case measure => simp [intOf] <;> omega
                  · have hkl : k < l.length := by omega
                    obtain ⟨g2, off2, hag2, hc2, hi2⟩ := hBs.int hkl
                    subst hag2
                    have HNX := Lib.hid (putB_in HA.out hlt he hkl)
                    rw [he] at hc1
                    obtain ⟨y, hy⟩ : ∃ y, y = l[k] := ⟨_, rfl⟩
                    rw [← hy] at hc2 hi2 HNX
                    obtain ⟨⟨u, hu⟩, hfz, _, _⟩ := hF.there1 rfl (i := j) (by omega)
                    have hF2 := (hF.set1 rfl (i := j) (by omega) (Fresh.leaf (m := w2.heap.size) (own_intm y hi2 wr)) (by omega)).one
                    have hb2 := hb.setCell (p := ⟨w2.heap.size, j, none⟩) (Nat.le_refl _) (.int .i64 y)
                    have hM2 := hMs.setCell (p := ⟨w2.heap.size, j, none⟩) (u := .int .i64 y) (Nat.lt_irrefl _)
                    have hB2 := hBs.setCell (p := ⟨w2.heap.size, j, none⟩) (u := .int .i64 y) (Nat.lt_irrefl _)
                    have hs6 : (wr.setCell ⟨w2.heap.size, j, none⟩ (.int .i64 y)).heap.size = wr.heap.size := by simp
                    have hjn : decide ((0 : Int) ≤ (j : Int)) = true := decide_eq_true (by omega)
                    clear he hy
                    go_wp2
                    go_roundw
                    case rel => exact ⟨⟨k + 1, ys.set j y, by omega, by go_num, by simpa using hyl, hF2, hM2, hB2, by omega, HNX.out⟩, hb2⟩
                    case measure => simp [intOf] <;> omega
                · have HE := Lib.hid (putB_end HA.out hlt)
                  go_wp2
                  go_ret2
                  exact ⟨_, by rw [HN.out]; rfl, by rw [HN.out, HE.out]; exact hF.mono HB2.size (by omega), HB2.trans (hb.mono HB2.size)⟩
end Go.Proofs.YtmblockojnaffaaDoor
