/-
  Walks: the table of what two texts have together.
-/
import Derived.Test.YthhmaclhggmneaaDoorVD
import Derived.Test.YthhmaclhggmneaaDoorMat
import Derived.Test.YthhmaclhggmneaaDoorVPM
import Derived.Test.YthhmaclhggmneaaDoorVI
import Derived.Test.YthhmaclhggmneaaDoorVC
set_option linter.unusedVariables false
namespace Go.Proofs.YthhmaclhggmneaaDoor
open Go.RowKit Go.Vc
open Go.Vc.Rep (rd)
open Go.Vc.Own (own)

instance : Tid (List Int) := ⟨49⟩
theorem slz_ints : SlZ Tryd.prog 168 (List Int) 24 (.slice none 0 0) := by
  obtain ⟨i, h1, h2, h3, h4⟩ := info_parts (show (Tryd.prog.info? 49).map (fun i => (i.zero, i.size, i.bytes)) = some (some (.slice none 0 0), 1, 24) by kernel_rfl)
  exact ⟨Tryd.underlying168, ⟨i, h1, h2, h3, h4⟩, fun w => ⟨_, [], [], rfl, World.ownsRow_nil _ _ _ _, rfl, trivial, Nat.one_pos⟩, Nat.one_pos⟩
theorem own_intm (n : Int) (h : I64 n) (w : World) : Go.Vc.Own.own [] w [.int .i64 n] n := ⟨rfl, rfl, h⟩
/-- an entry of a row that is there -/
theorem tab_row {S : Nat → Prop} {w : World} {g cap : Nat} {xs ys : List ByteArray} {i j : Nat} (h : IsSlice S w (some ⟨g, 0, none⟩) cap (tabS xs ys i j)) {r : Nat} (hr : r ≤ xs.length) :
    ∃ b n, w.cell? ⟨g, r, none⟩ = some (.slice b (ys.length + 1) n) ∧ IsSlice S w b n (rowS xs ys i j r) := by
  have hl : r < (tabS xs ys i j).length := by rw [tabS_len]; omega
  obtain ⟨g', off, b, n, hg, hc, hs⟩ := h.row hl
  simp only [Option.some.injEq, Addr.mk.injEq, and_true] at hg
  obtain ⟨rfl, rfl⟩ := hg
  rw [tabS_at] at hc hs
  rw [rowS_len, Nat.zero_add] at hc
  exact ⟨b, n, hc, hs⟩
theorem row_int {S : Nat → Prop} {w : World} {b : Option Addr} {n : Nat} {xs ys : List ByteArray} {i j r : Nat} (h : IsSlice S w b n (rowS xs ys i j r)) {c : Nat} (hc : c ≤ ys.length) (hd : i ≤ r ∨ (r + 1 = i ∧ j ≤ c)) :
    ∃ g off, b = some ⟨g, off, none⟩ ∧ w.cell? ⟨g, off + c, none⟩ = some (.int .i64 (lcAt xs ys r c)) := by
  have hl : c < (rowS xs ys i j r).length := by rw [rowS_len]; omega
  obtain ⟨g, off, hb, hx, _⟩ := h.int hl
  rw [rowS_done hl hd] at hx
  exact ⟨g, off, hb, hx⟩

theorem tab_set {w : World} {B m g n cap : Nat} {xs ys : List ByteArray} {I J : Nat} (hF : Fresh B m w [.slice (some ⟨g, 0, none⟩) n cap] (tabS xs ys (I + 1) (J + 1))) (hB : B ≤ w.heap.size) (hx : xs.length ≤ 10) (hi : I < xs.length) (hj : J < ys.length)
    {b : Option Addr} {ni ci : Nat} (hc : w.cell? ⟨g, I, none⟩ = some (.slice b ni ci)) {z : Int} (hz : lcAt xs ys I J = z) :
    ∃ gi, b = some ⟨gi, 0, none⟩ ∧ (∃ u', w.cell? ⟨gi, J, none⟩ = some u') ∧ w.frozen? ⟨gi, J, none⟩ = false ∧ B ≤ gi ∧
      Fresh B (w.setCell ⟨gi, J, none⟩ (.int .i64 z)).heap.size (w.setCell ⟨gi, J, none⟩ (.int .i64 z)) [.slice (some ⟨g, 0, none⟩) n cap] (tabS xs ys (I + 1) J) := by
  have h1 : I < (tabS xs ys (I + 1) (J + 1)).length := by rw [tabS_len]; omega
  have h2 : J < (tabS xs ys (I + 1) (J + 1))[I].length := by rw [tabS_at, rowS_len]; omega
  have hl := lcAt_le xs ys I J
  obtain ⟨gi, e, h3, h4, h5, h6⟩ := Fresh.set2 rfl hF hB h1 h2 hc (own_intm z (by unfold I64; omega))
  refine ⟨gi, e, h3, h4, h5, ?_⟩
  rw [tabS_at, ← hz, tabS_set hi hj] at h6
  rw [← hz]
  exact h6

set_option maxHeartbeats 4000000 in
set_option maxRecDepth 100000 in
theorem l1Table_any {S T : Nat → Prop} (v u : Value) (xs ys : List ByteArray) (w : World) (hv : rd S w [v] xs) (hu : rd T w [u] ys) (hx : xs.length ≤ 10) (hy : ys.length ≤ 10) :
    Calls Tryd.prog 143 #[v, u] w fun e w' => ∃ v', e = .returned v' ∧ Fresh w.heap.size w'.heap.size w' [v'] (tabS xs ys 0 0) ∧ Below w.heap.size w w' := by
  obtain ⟨a, cap, rfl, hs⟩ := rd_slice_elim (Rep.lt hv)
  obtain ⟨b, cbp, rfl, ht⟩ := rd_slice_elim (Rep.lt hu)
  have hmk2 := slz_int.make (ys.length + 1) (by omega) (by unfold maxLen; omega)
  simp only [Int.natCast_add, Int.natCast_one] at hmk2
  go_enter Tryd.func143, Tryd.ntmps143
  go_wp2
  go_loopw [5, 6] (fun t i wr => (∃ (k : Nat) (a5 : Option Addr) (c5 : Nat), k ≤ xs.length + 1 ∧ i = .int .i64 k ∧ t = .slice a5 k c5 ∧ Fresh w.heap.size wr.heap.size wr [t] (List.replicate k (List.replicate (ys.length + 1) (0 : Int)))) ∧ Below w.heap.size w wr) (fun _ i _ => xs.length + 1 - (intOf i).toNat)
  case atStart => exact ⟨⟨0, some ⟨w.heap.size, 0, none⟩, 0, by omega, rfl, rfl, (Fresh.empty (by decide) _ _ (Nat.le_refl _)).now⟩, (Below.refl _ _).alloc (Nat.le_refl _) _⟩
  case round =>
    obtain ⟨⟨k, a5, c5, hk, rfl, rfl, hF⟩, hb⟩ := hrel
    have hbs := hb.size
    by_cases hlt : k < xs.length + 1
    · have hY := (Fresh.made (w := wr) slz_int.hz slz_int.pos wr.heap.size (ys.length + 1) (by unfold maxLen; omega) (Nat.le_refl _)).now
      have hl : (List.replicate k (List.replicate (ys.length + 1) (0 : Int))).length = k := by simp
      have hby : ((List.replicate k (List.replicate (ys.length + 1) (0 : Int))).length + 1) * 24 ≤ 140737488355328 := by rw [hl]; omega
      have hmx : (List.replicate k (List.replicate (ys.length + 1) (0 : Int))).length + 1 ≤ maxLen := by rw [hl]; unfold maxLen; omega
      have HL := Lib.hid hl
      have hF1 := (hF.alloc (.cells (madeCells (Value.int .i64 0).cells ((ys.length + 1) * Rep.sz Int)) (Tid.tid Int))).alloc (.cells #[.slice (some ⟨wr.heap.size, 0, none⟩) (ys.length + 1) (ys.length + 1)] (Tid.tid (List Int)))
      clear hl
      go_wp2_with (at_builtin; go_must (refine wpList_app_one slz_ints.slt rfl (.tmp 16) (.tmp 21) rfl rfl hF1 (by simp <;> omega) rfl (heap_new_at (by simp)) (hY.alloc _) hb.size hby hmx ?_); intro a6 c6 w6 hG6)
      have hG7 := hG6.fresh
      rw [HL.out] at hG7
      go_roundw
      case rel => exact ⟨⟨k + 1, a6, c6, by omega, by go_num, rfl, by rw [List.replicate_succ']; exact hG7⟩, ((hb.alloc hb.size _).alloc (by simp <;> omega) _).trans (hG6.below)⟩
      case measure => simp [intOf]; omega
    · clear hmk2
      obtain rfl : k = xs.length + 1 := by omega
      obtain ⟨g5, rfl, _⟩ := hF.addr (by simp)
      rw [← tabS_start] at hF
      go_wp2
      go_loopw [7, 8] (fun i _ wr => (∃ I : Nat, I ≤ xs.length ∧ i = .int .i64 ((I : Int) - 1) ∧ Fresh w.heap.size wr.heap.size wr [.slice (some ⟨g5, 0, none⟩) (xs.length + 1) c5] (tabS xs ys I ys.length)) ∧ Below w.heap.size w wr) (fun i _ _ => (intOf i + 1).toNat)
      case atStart => exact ⟨⟨xs.length, by omega, rfl, hF⟩, hb⟩
      case round =>
        obtain ⟨⟨I, hI, rfl, hF⟩, hb⟩ := hrel
        rcases I with _ | I
        · go_wp2
          go_ret
          exact ⟨_, rfl, by rw [tabS_zero] at hF; exact hF, hb⟩
        · have e1 : (((I + 1 : Nat) : Int) - 1) = (I : Int) := by omega
          rw [e1]
          clear e1
          go_wp2
          go_loopw [8] (fun j wr => (∃ J : Nat, J ≤ ys.length ∧ j = .int .i64 ((J : Int) - 1) ∧ Fresh w.heap.size wr.heap.size wr [.slice (some ⟨g5, 0, none⟩) (xs.length + 1) c5] (tabS xs ys (I + 1) J)) ∧ Below w.heap.size w wr) (fun j _ => (intOf j + 1).toNat)
          case atStart => exact ⟨⟨ys.length, by omega, rfl, hF⟩, hb⟩
          case round =>
            obtain ⟨⟨J, hJ, rfl, hF⟩, hb⟩ := hrel
            rcases J with _ | J
            · go_wp2
              go_roundw
              case rel => exact ⟨⟨I, by omega, by go_num, by rw [← tabS_row]; exact hF⟩, hb⟩
              case measure => simp [intOf] <;> omega
            · have e2 : (((J + 1 : Nat) : Int) - 1) = (J : Int) := by omega
              rw [e2]
              clear e2
              have hi : I < xs.length := by omega
              have hj : J < ys.length := by omega
              obtain ⟨g, off, rfl, hc, _⟩ := (hs.keep hb).str hi
              obtain ⟨g', off', rfl, hc', _⟩ := (ht.keep hb).str hj
              have hc := BW.cell hc
              have hc' := BW.cell hc'
              by_cases he : xs[I] = ys[J]
              · have he2 : decide (xs[I] = ys[J]) = true := decide_eq_true he
                have HE := Lib.hid (lcAt_eq hi hj he)
                clear he
                go_wp2
                refine wp_region_bw (by kernel_rfl) (by kernel_rfl) ?_
                repeat (go_big_quiet_step (fail))
                refine wpQuiet_nil ?_
                rintro w1 ⟨⟨_, hbw⟩, rfl⟩
                have hb1 := hb.trans (hbw.mono hb.size)
                have hF1 := hF.below (Nat.le_refl _) hbw
                have hsz1 := hbw.size
                clear hbw hc hc'
                have hT := (rd_slice_of hF1.rd).2
                obtain ⟨b0, n0, hq0, _⟩ := tab_row hT (r := I) (by omega)
                obtain ⟨b1, n1, hq1, hr1⟩ := tab_row hT (r := I + 1) (by omega)
                obtain ⟨g1, o1, rfl, hp1⟩ := row_int hr1 (c := J + 1) (by omega) (.inl (by omega))
                obtain ⟨gi, rfl, _⟩ := tab_set hF1 hb1.size hx hi hj hq0 HE.out
                have hl1 := lcAt_le xs ys (I + 1) (J + 1)
                generalize lcAt xs ys (I + 1) (J + 1) = z at hp1 HE hl1
                have HQ0 := Lib.hid hq0
                have hq0 := BW.cell hq0
                have hq1 := BW.cell hq1
                have hp1 := BW.cell hp1
                have e1 : IntKind.i64.wrap ((I : Int) + 1) = (I : Int) + 1 := IntWalk.i64_in _ (by omega)
                have e2 : IntKind.i64.wrap ((J : Int) + 1) = (J : Int) + 1 := IntWalk.i64_in _ (by omega)
                have e3 : IntKind.i64.wrap (z + 1) = z + 1 := IntWalk.i64_in _ (by omega)
                obtain ⟨wo, rfl⟩ : ∃ wo : World, wo = w1 := ⟨_, rfl⟩
                go_wp2
                refine wp_region_tail 16 (by kernel_rfl) (by kernel_rfl) ?_
                simp only [List.take_succ_cons, List.take_zero, List.drop_succ_cons, List.drop_zero]
                repeat (go_big_quiet_step (fail))
                refine wpQuiet_nil ?_
                rintro w1 ⟨⟨_, hbw⟩, rfl⟩
                clear e1 e2 e3
                have hb2 := hb1.trans (hbw.mono hb1.size)
                have hF2 := hF1.below (Nat.le_refl _) hbw
                obtain ⟨gi', hgi, ⟨u', hu'⟩, hfz, hBg, hF3⟩ := tab_set hF2 hb2.size hx hi hj (keepc HQ0.out hbw) HE.out
                obtain rfl : gi = gi' := by simpa using hgi
                clear hq0 hq1 hp1
                go_wp2
                go_roundw
                case rel => exact ⟨⟨J, by omega, by go_num, hF3⟩, hb2.setCell hBg _⟩
                case measure => simp [intOf] <;> omega
              · have he2 : decide (xs[I] = ys[J]) = false := decide_eq_false he
                have HE := Lib.hid (lcAt_ne' hi hj he)
                clear he
                go_wp2
                refine wp_region_bw (by kernel_rfl) (by kernel_rfl) ?_
                repeat (go_big_quiet_step (fail))
                refine wpQuiet_nil ?_
                rintro w1 ⟨⟨_, hbw⟩, rfl⟩
                have hb1 := hb.trans (hbw.mono hb.size)
                have hF1 := hF.below (Nat.le_refl _) hbw
                have hsz1 := hbw.size
                clear hbw hc hc'
                have hT := (rd_slice_of hF1.rd).2
                obtain ⟨b0, n0, hq0, hr0⟩ := tab_row hT (r := I) (by omega)
                obtain ⟨b1, n1, hq1, hr1⟩ := tab_row hT (r := I + 1) (by omega)
                obtain ⟨g1, o1, rfl, hp1⟩ := row_int hr1 (c := J) (by omega) (.inl (by omega))
                obtain ⟨g0, o0, e0, hp0⟩ := row_int hr0 (c := J + 1) (by omega) (.inr (by omega))
                obtain ⟨gi, hgi0, _⟩ := tab_set hF1 hb1.size hx hi hj hq0 HE.out
                subst hgi0
                obtain ⟨rfl, rfl⟩ : g0 = gi ∧ o0 = 0 := by simpa [eq_comm] using e0
                rw [Nat.zero_add] at hp0
                generalize lcAt xs ys (I + 1) J = z1 at hp1 HE
                generalize lcAt xs ys I (J + 1) = z0 at hp0 HE
                have HQ0 := Lib.hid hq0
                have HQ1 := Lib.hid hq1
                have HP0 := Lib.hid hp0
                have HP1 := Lib.hid hp1
                have hq0 := BW.cell hq0
                have hq1 := BW.cell hq1
                have hp0 := BW.cell hp0
                have hp1 := BW.cell hp1
                have e1 : IntKind.i64.wrap ((I : Int) + 1) = (I : Int) + 1 := IntWalk.i64_in _ (by omega)
                have e2 : IntKind.i64.wrap ((J : Int) + 1) = (J : Int) + 1 := IntWalk.i64_in _ (by omega)
                obtain ⟨wo, rfl⟩ : ∃ wo : World, wo = w1 := ⟨_, rfl⟩
                clear e0
                by_cases hz : z0 ≤ z1
                · have hzd : decide (z0 ≤ z1) = true := decide_eq_true hz
                  have HE2 : Hid (lcAt xs ys I J = z1) := by show _ = _; rw [HE.out, if_neg (by omega)]
                  clear hz
                  go_wp2
                  refine wp_region_bw (by kernel_rfl) (by kernel_rfl) ?_
                  repeat (go_big_quiet_step (fail))
                  refine wpQuiet_nil ?_
                  rintro w1 ⟨⟨_, hbw⟩, rfl⟩
                  have hb1 := hb1.trans (hbw.mono hb1.size)
                  have hF1 := hF1.below (Nat.le_refl _) hbw
                  have hq0 := BW.next hq0 hbw
                  have hq1 := BW.next hq1 hbw
                  have hp1 := BW.next hp1 hbw
                  have HQ0 := Lib.hid (keepc HQ0.out hbw)
                  clear hbw hp0
                  obtain ⟨wo, rfl⟩ : ∃ wo : World, wo = w1 := ⟨_, rfl⟩
                  go_wp2
                  refine wp_region_tail 14 (by kernel_rfl) (by kernel_rfl) ?_
                  simp only [List.take_succ_cons, List.take_zero, List.drop_succ_cons, List.drop_zero]
                  repeat (go_big_quiet_step (fail))
                  refine wpQuiet_nil ?_
                  rintro w1 ⟨⟨_, hbw⟩, rfl⟩
                  clear e1 e2
                  have hb2 := hb1.trans (hbw.mono hb1.size)
                  have hF2 := hF1.below (Nat.le_refl _) hbw
                  obtain ⟨gi', hgi, ⟨u', hu'⟩, hfz, hBg, hF3⟩ := tab_set hF2 hb2.size hx hi hj (keepc HQ0.out hbw) HE2.out
                  obtain rfl : g0 = gi' := by simpa using hgi
                  clear hq0 hq1 hp1
                  go_wp2
                  go_roundw
                  case rel => exact ⟨⟨J, by omega, by go_num, hF3⟩, hb2.setCell hBg _⟩
                  case measure => simp [intOf] <;> omega
                · have hzd : decide (z0 ≤ z1) = false := decide_eq_false hz
                  have HE2 : Hid (lcAt xs ys I J = z0) := by show _ = _; rw [HE.out, if_pos (by omega)]
                  clear hz
                  go_wp2
                  refine wp_region_bw (by kernel_rfl) (by kernel_rfl) ?_
                  repeat (go_big_quiet_step (fail))
                  refine wpQuiet_nil ?_
                  rintro w1 ⟨⟨_, hbw⟩, rfl⟩
                  have hb1 := hb1.trans (hbw.mono hb1.size)
                  have hF1 := hF1.below (Nat.le_refl _) hbw
                  have hq0 := BW.next hq0 hbw
                  have hp0 := BW.next hp0 hbw
                  have HQ0 := Lib.hid (keepc HQ0.out hbw)
                  clear hbw hp1
                  obtain ⟨wo, rfl⟩ : ∃ wo : World, wo = w1 := ⟨_, rfl⟩
                  go_wp2
                  refine wp_region_tail 14 (by kernel_rfl) (by kernel_rfl) ?_
                  simp only [List.take_succ_cons, List.take_zero, List.drop_succ_cons, List.drop_zero]
                  repeat (go_big_quiet_step (fail))
                  refine wpQuiet_nil ?_
                  rintro w1 ⟨⟨_, hbw⟩, rfl⟩
                  clear e1 e2
                  have hb2 := hb1.trans (hbw.mono hb1.size)
                  have hF2 := hF1.below (Nat.le_refl _) hbw
                  obtain ⟨gi', hgi, ⟨u', hu'⟩, hfz, hBg, hF3⟩ := tab_set hF2 hb2.size hx hi hj (keepc HQ0.out hbw) HE2.out
                  obtain rfl : g0 = gi' := by simpa using hgi
                  clear hq0 hp0
                  go_wp2
                  go_roundw
                  case rel => exact ⟨⟨J, by omega, by go_num, hF3⟩, hb2.setCell hBg _⟩
                  case measure => simp [intOf] <;> omega
end Go.Proofs.YthhmaclhggmneaaDoor
