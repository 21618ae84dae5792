/-
  Rows of rows: a row read, a place of a row set. No program is in sight here. / Walks: the table of what two texts have together. / Walks: which line of one text is which of the other.
-/
import Derived.Test.YthddcfbjgcbioaaGreatDoorVB
import Derived.Test.YthddcfbjgcbioaaGreatDoorVD
import Derived.Test.YthddcfbjgcbioaaGreatDoorVPB
import Derived.Test.YthddcfbjgcbioaaGreatDoorVI
import Derived.Test.YthddcfbjgcbioaaGreatDoorVC
set_option linter.unusedVariables false
namespace Go.Vc
open Go.RowKit
open Rep (rd)
open Own (own)

section
variable {α : Type} {w : World}
theorem IsSlice.row [Rep α] {S : Nat → Prop} {a : Option Addr} {cap : Nat} {xs : List (List α)} (h : IsSlice S w a cap xs) {i : Nat} (hi : i < xs.length) :
    ∃ g off b n, a = some ⟨g, off, none⟩ ∧ w.cell? ⟨g, off + i, none⟩ = some (.slice b xs[i].length n) ∧ IsSlice S w b n xs[i] := by
  obtain ⟨g, off, us, h1, _, h3, b, n, rfl, h5⟩ := h.elem hi
  exact ⟨g, off, b, n, h1, by have := h3 0 _ rfl; simpa [Rep.sz] using this, h5⟩
/-- out[i][j] = v -/
theorem Fresh.set2 [Own α] [Tid α] [Leaf α] [Tid (List α)] (hz : Rep.sz α = 1) {B m g n cap : Nat} {xs : List (List α)} (h : Fresh B m w [.slice (some ⟨g, 0, none⟩) n cap] xs) (hB : B ≤ w.heap.size) {i : Nat} (hi : i < xs.length) {j : Nat} (hj : j < xs[i].length)
    {b : Option Addr} {ni ci : Nat} (hc : w.cell? ⟨g, i, none⟩ = some (.slice b ni ci)) {u : Value} {y : α} (hy : ∀ w', own [] w' [u] y) :
    ∃ gi, b = some ⟨gi, 0, none⟩ ∧ (∃ u', w.cell? ⟨gi, j, none⟩ = some u') ∧ w.frozen? ⟨gi, j, none⟩ = false ∧ B ≤ gi ∧
      Fresh B (w.setCell ⟨gi, j, none⟩ u).heap.size (w.setCell ⟨gi, j, none⟩ u) [.slice (some ⟨g, 0, none⟩) n cap] (xs.set i (xs[i].set j y)) := by
  obtain ⟨F, ho, hn, hb⟩ := h
  obtain ⟨Fl, lv, hcell, hol, hnl, hsub, hback⟩ := own_callf (lens_self (β := List α) rfl) ho hn hi
  have hcc : w.cell? ⟨g, i, none⟩ = some lv := by rw [← hcell]; congr 2; show i = i * 1 + 0; omega
  have hlv : lv = .slice b ni ci := by rw [hc] at hcc; simpa using hcc.symm
  subst hlv
  obtain ⟨gi, rfl, hgF⟩ := own_addr hol (Nat.lt_of_le_of_lt (Nat.zero_le j) hj)
  obtain ⟨⟨u', hu'⟩, hfz, _, F', ho', hn', hof⟩ := own_setf (lens_self hz) hol hnl hj hy
  rw [show j * Rep.sz α + 0 = j by rw [hz]; omega] at hu' hfz ho'
  have hS : Still Fl w (w.setCell ⟨gi, j, none⟩ u) [.slice (some ⟨gi, 0, none⟩) ni ci] (xs[i].set j y) := ⟨F', ho', hn', hof, (TouchF.refl _ _).setCell (.inl hgF) u⟩
  obtain ⟨FF, hoF, hnF, hofF, _⟩ := hback _ _ hS
  refine ⟨gi, rfl, ⟨u', hu'⟩, hfz, (hb gi (hsub gi hgF)).1, FF, hoF, hnF, fun k hk => ⟨?_, Own.lt hoF k hk⟩⟩
  rcases hofF k hk with h | h
  · exact (hb k h).1
  · omega
end
end Go.Vc
namespace Go.Proofs.YthddcfbjgcbioaaGreatDoor
open Go.RowKit Go.Vc
open Go.Vc.Rep (rd)
open Go.Vc.Own (own)

instance : Tid (List Int) := ⟨64⟩
theorem slz_ints : SlZ Tryz.prog 116 (List Int) 24 (.slice none 0 0) := by
  obtain ⟨i, h1, h2, h3, h4⟩ := info_parts (show (Tryz.prog.info? 64).map (fun i => (i.zero, i.size, i.bytes)) = some (some (.slice none 0 0), 1, 24) by kernel_rfl)
  exact ⟨Tryz.underlying116, ⟨i, h1, h2, h3, h4⟩, fun w => ⟨_, [], [], rfl, World.ownsRow_nil _ _ _ _, rfl, trivial, Nat.one_pos⟩, Nat.one_pos⟩
theorem own_intm (n : Int) (h : I64 n) (w : World) : Go.Vc.Own.own [] w [.int .i64 n] n := ⟨rfl, rfl, h⟩
/-- an entry of a row that is there -/
theorem tab_row {S : Nat → Prop} {w : World} {g cap : Nat} {xs ys : List ByteArray} {i j : Nat} (h : IsSlice S w (some ⟨g, 0, none⟩) cap (tabS xs ys i j)) {r : Nat} (hr : r ≤ xs.length) :
    ∃ b n, w.cell? ⟨g, r, none⟩ = some (.slice b (ys.length + 1) n) ∧ IsSlice S w b n (rowS xs ys i j r) := by
  have hl : r < (tabS xs ys i j).length := by rw [tabS_len]; omega
  obtain ⟨g', off, b, n, hg, hc, hs⟩ := h.row hl
  simp only [Option.some.injEq, Addr.mk.injEq, and_true] at hg
  obtain ⟨rfl, rfl⟩ := hg
  rw [tabS_at] at hc hs
  rw [rowS_len, Nat.zero_add] at hc
  exact ⟨b, n, hc, hs⟩
theorem row_int {S : Nat → Prop} {w : World} {b : Option Addr} {n : Nat} {xs ys : List ByteArray} {i j r : Nat} (h : IsSlice S w b n (rowS xs ys i j r)) {c : Nat} (hc : c ≤ ys.length) (hd : i ≤ r ∨ (r + 1 = i ∧ j ≤ c)) :
    ∃ g off, b = some ⟨g, off, none⟩ ∧ w.cell? ⟨g, off + c, none⟩ = some (.int .i64 (lcAt xs ys r c)) := by
  have hl : c < (rowS xs ys i j r).length := by rw [rowS_len]; omega
  obtain ⟨g, off, hb, hx, _⟩ := h.int hl
  rw [rowS_done hl hd] at hx
  exact ⟨g, off, hb, hx⟩

theorem tab_set {w : World} {B m g n cap : Nat} {xs ys : List ByteArray} {I J : Nat} (hF : Fresh B m w [.slice (some ⟨g, 0, none⟩) n cap] (tabS xs ys (I + 1) (J + 1))) (hB : B ≤ w.heap.size) (hx : xs.length ≤ 10) (hi : I < xs.length) (hj : J < ys.length)
    {b : Option Addr} {ni ci : Nat} (hc : w.cell? ⟨g, I, none⟩ = some (.slice b ni ci)) {z : Int} (hz : lcAt xs ys I J = z) :
    ∃ gi, b = some ⟨gi, 0, none⟩ ∧ (∃ u', w.cell? ⟨gi, J, none⟩ = some u') ∧ w.frozen? ⟨gi, J, none⟩ = false ∧ B ≤ gi ∧
      Fresh B (w.setCell ⟨gi, J, none⟩ (.int .i64 z)).heap.size (w.setCell ⟨gi, J, none⟩ (.int .i64 z)) [.slice (some ⟨g, 0, none⟩) n cap] (tabS xs ys (I + 1) J) := by
  have h1 : I < (tabS xs ys (I + 1) (J + 1)).length := by rw [tabS_len]; omega
  have h2 : J < (tabS xs ys (I + 1) (J + 1))[I].length := by rw [tabS_at, rowS_len]; omega
  have hl := lcAt_le xs ys I J
  obtain ⟨gi, e, h3, h4, h5, h6⟩ := Fresh.set2 rfl hF hB h1 h2 hc (own_intm z (by unfold I64; omega))
  refine ⟨gi, e, h3, h4, h5, ?_⟩
  rw [tabS_at, ← hz, tabS_set hi hj] at h6
  rw [← hz]
  exact h6

set_option maxHeartbeats 4000000 in
set_option maxRecDepth 100000 in
theorem l1Table_any {S T : Nat → Prop} (v u : Value) (xs ys : List ByteArray) (w : World) (hv : rd S w [v] xs) (hu : rd T w [u] ys) (hx : xs.length ≤ 10) (hy : ys.length ≤ 10) :
    Calls Tryz.prog 108 #[v, u] w fun e w' => ∃ v', e = .returned v' ∧ Fresh w.heap.size w'.heap.size w' [v'] (tabS xs ys 0 0) ∧ Below w.heap.size w w' := by
  obtain ⟨a, cap, rfl, hs⟩ := rd_slice_elim (Rep.lt hv)
  obtain ⟨b, cbp, rfl, ht⟩ := rd_slice_elim (Rep.lt hu)
  have hmk2 := slz_int.make (ys.length + 1) (by omega) (by unfold maxLen; omega)
  simp only [Int.natCast_add, Int.natCast_one] at hmk2
  go_enter Tryz.func108, Tryz.ntmps108
  go_wp2
  go_loopw [5, 6] (fun t i wr => (∃ (k : Nat) (a5 : Option Addr) (c5 : Nat), k ≤ xs.length + 1 ∧ i = .int .i64 k ∧ t = .slice a5 k c5 ∧ Fresh w.heap.size wr.heap.size wr [t] (List.replicate k (List.replicate (ys.length + 1) (0 : Int)))) ∧ Below w.heap.size w wr) (fun _ i _ => xs.length + 1 - (intOf i).toNat)
  case atStart => exact ⟨⟨0, some ⟨w.heap.size, 0, none⟩, 0, by omega, rfl, rfl, (Fresh.empty (by decide) _ _ (Nat.le_refl _)).now⟩, (Below.refl _ _).alloc (Nat.le_refl _) _⟩
  case round =>
    obtain ⟨⟨k, a5, c5, hk, rfl, rfl, hF⟩, hb⟩ := hrel
    have hbs := hb.size
    by_cases hlt : k < xs.length + 1
    · have hY := (Fresh.made (w := wr) slz_int.hz slz_int.pos wr.heap.size (ys.length + 1) (by unfold maxLen; omega) (Nat.le_refl _)).now
      have hl : (List.replicate k (List.replicate (ys.length + 1) (0 : Int))).length = k := by simp
      have hby : ((List.replicate k (List.replicate (ys.length + 1) (0 : Int))).length + 1) * 24 ≤ 140737488355328 := by rw [hl]; omega
      have hmx : (List.replicate k (List.replicate (ys.length + 1) (0 : Int))).length + 1 ≤ maxLen := by rw [hl]; unfold maxLen; omega
      have HL := Lib.hid hl
      have hF1 := (hF.alloc (.cells (madeCells (Value.int .i64 0).cells ((ys.length + 1) * Rep.sz Int)) (Tid.tid Int))).alloc (.cells #[.slice (some ⟨wr.heap.size, 0, none⟩) (ys.length + 1) (ys.length + 1)] (Tid.tid (List Int)))
      clear hl
      go_wp2_with (at_builtin; go_must (refine wpList_app_one slz_ints.slt rfl (.tmp 16) (.tmp 21) rfl rfl hF1 (by simp <;> omega) rfl (heap_new_at (by simp)) (hY.alloc _) hb.size hby hmx ?_); intro a6 c6 w6 hG6)
      have hG7 := hG6.fresh
      rw [HL.out] at hG7
      go_roundw
      case rel => exact ⟨⟨k + 1, a6, c6, by omega, by go_num, rfl, by rw [List.replicate_succ']; exact hG7⟩, ((hb.alloc hb.size _).alloc (by simp <;> omega) _).trans (hG6.below)⟩
      case measure => simp [intOf]; omega
    · clear hmk2
      obtain rfl : k = xs.length + 1 := by omega
      obtain ⟨g5, rfl, _⟩ := hF.addr (by simp)
      rw [← tabS_start] at hF
      go_wp2
      go_loopw [7, 8] (fun i _ wr => (∃ I : Nat, I ≤ xs.length ∧ i = .int .i64 ((I : Int) - 1) ∧ Fresh w.heap.size wr.heap.size wr [.slice (some ⟨g5, 0, none⟩) (xs.length + 1) c5] (tabS xs ys I ys.length)) ∧ Below w.heap.size w wr) (fun i _ _ => (intOf i + 1).toNat)
      case atStart => exact ⟨⟨xs.length, by omega, rfl, hF⟩, hb⟩
      case round =>
        obtain ⟨⟨I, hI, rfl, hF⟩, hb⟩ := hrel
        rcases I with _ | I
        · go_wp2
          go_ret
          exact ⟨_, rfl, by rw [tabS_zero] at hF; exact hF, hb⟩
        · have e1 : (((I + 1 : Nat) : Int) - 1) = (I : Int) := by omega
          rw [e1]
          clear e1
          go_wp2
          go_loopw [8] (fun j wr => (∃ J : Nat, J ≤ ys.length ∧ j = .int .i64 ((J : Int) - 1) ∧ Fresh w.heap.size wr.heap.size wr [.slice (some ⟨g5, 0, none⟩) (xs.length + 1) c5] (tabS xs ys (I + 1) J)) ∧ Below w.heap.size w wr) (fun j _ => (intOf j + 1).toNat)
          case atStart => exact ⟨⟨ys.length, by omega, rfl, hF⟩, hb⟩
          case round =>
            obtain ⟨⟨J, hJ, rfl, hF⟩, hb⟩ := hrel
            rcases J with _ | J
            · go_wp2
              go_roundw
              case rel => exact ⟨⟨I, by omega, by go_num, by rw [← tabS_row]; exact hF⟩, hb⟩
              case measure => simp [intOf] <;> omega
            · have e2 : (((J + 1 : Nat) : Int) - 1) = (J : Int) := by omega
              rw [e2]
              clear e2
              have hi : I < xs.length := by omega
              have hj : J < ys.length := by omega
              obtain ⟨g, off, rfl, hc, _⟩ := (hs.keep hb).str hi
              obtain ⟨g', off', rfl, hc', _⟩ := (ht.keep hb).str hj
              have hc := BW.cell hc
              have hc' := BW.cell hc'
              by_cases he : xs[I] = ys[J]
              · have he2 : decide (xs[I] = ys[J]) = true := decide_eq_true he
                have HE := Lib.hid (lcAt_eq hi hj he)
                clear he
                go_wp2
                refine wp_region_bw (by kernel_rfl) (by kernel_rfl) ?_
                repeat (go_big_quiet_step (fail))
                refine wpQuiet_nil ?_
                rintro w1 ⟨⟨_, hbw⟩, rfl⟩
                have hb1 := hb.trans (hbw.mono hb.size)
                have hF1 := hF.below (Nat.le_refl _) hbw
                have hsz1 := hbw.size
                clear hbw hc hc'
                have hT := (rd_slice_of hF1.rd).2
                obtain ⟨b0, n0, hq0, _⟩ := tab_row hT (r := I) (by omega)
                obtain ⟨b1, n1, hq1, hr1⟩ := tab_row hT (r := I + 1) (by omega)
                obtain ⟨g1, o1, rfl, hp1⟩ := row_int hr1 (c := J + 1) (by omega) (.inl (by omega))
                obtain ⟨gi, rfl, _⟩ := tab_set hF1 hb1.size hx hi hj hq0 HE.out
                have hl1 := lcAt_le xs ys (I + 1) (J + 1)
                generalize lcAt xs ys (I + 1) (J + 1) = z at hp1 HE hl1
                have HQ0 := Lib.hid hq0
                have hq0 := BW.cell hq0
                have hq1 := BW.cell hq1
                have hp1 := BW.cell hp1
                have e1 : IntKind.i64.wrap ((I : Int) + 1) = (I : Int) + 1 := IntWalk.i64_in _ (by omega)
                have e2 : IntKind.i64.wrap ((J : Int) + 1) = (J : Int) + 1 := IntWalk.i64_in _ (by omega)
                have e3 : IntKind.i64.wrap (z + 1) = z + 1 := IntWalk.i64_in _ (by omega)
                obtain ⟨wo, rfl⟩ : ∃ wo : World, wo = w1 := ⟨_, rfl⟩
                go_wp2
                refine wp_region_tail 16 (by kernel_rfl) (by kernel_rfl) ?_
                simp only [List.take_succ_cons, List.take_zero, List.drop_succ_cons, List.drop_zero]
                repeat (go_big_quiet_step (fail))
                refine wpQuiet_nil ?_
                rintro w1 ⟨⟨_, hbw⟩, rfl⟩
                clear e1 e2 e3
                have hb2 := hb1.trans (hbw.mono hb1.size)
                have hF2 := hF1.below (Nat.le_refl _) hbw
                obtain ⟨gi', hgi, ⟨u', hu'⟩, hfz, hBg, hF3⟩ := tab_set hF2 hb2.size hx hi hj (keepc HQ0.out hbw) HE.out
                obtain rfl : gi = gi' := by simpa using hgi
                clear hq0 hq1 hp1
                go_wp2
                go_roundw
                case rel => exact ⟨⟨J, by omega, by go_num, hF3⟩, hb2.setCell hBg _⟩
                case measure => simp [intOf] <;> omega
              · have he2 : decide (xs[I] = ys[J]) = false := decide_eq_false he
                have HE := Lib.hid (lcAt_ne' hi hj he)
                clear he
                go_wp2
                refine wp_region_bw (by kernel_rfl) (by kernel_rfl) ?_
                repeat (go_big_quiet_step (fail))
                refine wpQuiet_nil ?_
                rintro w1 ⟨⟨_, hbw⟩, rfl⟩
                have hb1 := hb.trans (hbw.mono hb.size)
                have hF1 := hF.below (Nat.le_refl _) hbw
                have hsz1 := hbw.size
                clear hbw hc hc'
                have hT := (rd_slice_of hF1.rd).2
                obtain ⟨b0, n0, hq0, hr0⟩ := tab_row hT (r := I) (by omega)
                obtain ⟨b1, n1, hq1, hr1⟩ := tab_row hT (r := I + 1) (by omega)
                obtain ⟨g1, o1, rfl, hp1⟩ := row_int hr1 (c := J) (by omega) (.inl (by omega))
                obtain ⟨g0, o0, e0, hp0⟩ := row_int hr0 (c := J + 1) (by omega) (.inr (by omega))
                obtain ⟨gi, hgi0, _⟩ := tab_set hF1 hb1.size hx hi hj hq0 HE.out
                subst hgi0
                obtain ⟨rfl, rfl⟩ : g0 = gi ∧ o0 = 0 := by simpa [eq_comm] using e0
                rw [Nat.zero_add] at hp0
                generalize lcAt xs ys (I + 1) J = z1 at hp1 HE
                generalize lcAt xs ys I (J + 1) = z0 at hp0 HE
                have HQ0 := Lib.hid hq0
                have HQ1 := Lib.hid hq1
                have HP0 := Lib.hid hp0
                have HP1 := Lib.hid hp1
                have hq0 := BW.cell hq0
                have hq1 := BW.cell hq1
                have hp0 := BW.cell hp0
                have hp1 := BW.cell hp1
                have e1 : IntKind.i64.wrap ((I : Int) + 1) = (I : Int) + 1 := IntWalk.i64_in _ (by omega)
                have e2 : IntKind.i64.wrap ((J : Int) + 1) = (J : Int) + 1 := IntWalk.i64_in _ (by omega)
                obtain ⟨wo, rfl⟩ : ∃ wo : World, wo = w1 := ⟨_, rfl⟩
                clear e0
                by_cases hz : z0 ≤ z1
                · have hzd : decide (z0 ≤ z1) = true := decide_eq_true hz
                  have HE2 : Hid (lcAt xs ys I J = z1) := by show _ = _; rw [HE.out, if_neg (by omega)]
                  clear hz
                  go_wp2
                  refine wp_region_bw (by kernel_rfl) (by kernel_rfl) ?_
                  repeat (go_big_quiet_step (fail))
                  refine wpQuiet_nil ?_
                  rintro w1 ⟨⟨_, hbw⟩, rfl⟩
                  have hb1 := hb1.trans (hbw.mono hb1.size)
                  have hF1 := hF1.below (Nat.le_refl _) hbw
                  have hq0 := BW.next hq0 hbw
                  have hq1 := BW.next hq1 hbw
                  have hp1 := BW.next hp1 hbw
                  have HQ0 := Lib.hid (keepc HQ0.out hbw)
                  clear hbw hp0
                  obtain ⟨wo, rfl⟩ : ∃ wo : World, wo = w1 := ⟨_, rfl⟩
                  go_wp2
                  refine wp_region_tail 14 (by kernel_rfl) (by kernel_rfl) ?_
                  simp only [List.take_succ_cons, List.take_zero, List.drop_succ_cons, List.drop_zero]
                  repeat (go_big_quiet_step (fail))
                  refine wpQuiet_nil ?_
                  rintro w1 ⟨⟨_, hbw⟩, rfl⟩
                  clear e1 e2
                  have hb2 := hb1.trans (hbw.mono hb1.size)
                  have hF2 := hF1.below (Nat.le_refl _) hbw
                  obtain ⟨gi', hgi, ⟨u', hu'⟩, hfz, hBg, hF3⟩ := tab_set hF2 hb2.size hx hi hj (keepc HQ0.out hbw) HE2.out
                  obtain rfl : g0 = gi' := by simpa using hgi
                  clear hq0 hq1 hp1
                  go_wp2
                  go_roundw
                  case rel => exact ⟨⟨J, by omega, by go_num, hF3⟩, hb2.setCell hBg _⟩
                  case measure => simp [intOf] <;> omega
                · have hzd : decide (z0 ≤ z1) = false := decide_eq_false hz
                  have HE2 : Hid (lcAt xs ys I J = z0) := by show _ = _; rw [HE.out, if_pos (by omega)]
                  clear hz
                  go_wp2
                  refine wp_region_bw (by kernel_rfl) (by kernel_rfl) ?_
                  repeat (go_big_quiet_step (fail))
                  refine wpQuiet_nil ?_
                  rintro w1 ⟨⟨_, hbw⟩, rfl⟩
                  have hb1 := hb1.trans (hbw.mono hb1.size)
                  have hF1 := hF1.below (Nat.le_refl _) hbw
                  have hq0 := BW.next hq0 hbw
                  have hp0 := BW.next hp0 hbw
                  have HQ0 := Lib.hid (keepc HQ0.out hbw)
                  clear hbw hp1
                  obtain ⟨wo, rfl⟩ : ∃ wo : World, wo = w1 := ⟨_, rfl⟩
                  go_wp2
                  refine wp_region_tail 14 (by kernel_rfl) (by kernel_rfl) ?_
                  simp only [List.take_succ_cons, List.take_zero, List.drop_succ_cons, List.drop_zero]
                  repeat (go_big_quiet_step (fail))
                  refine wpQuiet_nil ?_
                  rintro w1 ⟨⟨_, hbw⟩, rfl⟩
                  clear e1 e2
                  have hb2 := hb1.trans (hbw.mono hb1.size)
                  have hF2 := hF1.below (Nat.le_refl _) hbw
                  obtain ⟨gi', hgi, ⟨u', hu'⟩, hfz, hBg, hF3⟩ := tab_set hF2 hb2.size hx hi hj (keepc HQ0.out hbw) HE2.out
                  obtain rfl : g0 = gi' := by simpa using hgi
                  clear hq0 hp0
                  go_wp2
                  go_roundw
                  case rel => exact ⟨⟨J, by omega, by go_num, hF3⟩, hb2.setCell hBg _⟩
                  case measure => simp [intOf] <;> omega
end Go.Proofs.YthddcfbjgcbioaaGreatDoor
namespace Go.Proofs.YthddcfbjgcbioaaGreatDoor
open Go.RowKit Go.Vc
open Go.Vc.Rep (rd)
open Go.Vc.Own (own)

theorem tab_shape {B m : Nat} {w : World} {v : Value} {xs ys : List ByteArray} {i j : Nat} (h : Fresh B m w [v] (tabS xs ys i j)) :
    ∃ g c, v = .slice (some ⟨g, 0, none⟩) (xs.length + 1) c ∧ IsSlice (fun b => b < w.heap.size) w (some ⟨g, 0, none⟩) c (tabS xs ys i j) := by
  obtain ⟨a, c, rfl, _⟩ := rd_slice_elim h.rd
  obtain ⟨g, rfl, _⟩ := h.addr (by rw [tabS_len]; omega)
  exact ⟨g, c, by rw [tabS_len], (rd_slice_of (Rep.lt h.rd)).2⟩

set_option maxHeartbeats 4000000 in
set_option maxRecDepth 100000 in
theorem l1Match_any {S T : Nat → Prop} (v u : Value) (xs ys : List ByteArray) (w : World) (hv : rd S w [v] xs) (hu : rd T w [u] ys) (hx : xs.length ≤ 10) (hy : ys.length ≤ 10) :
    Calls Tryz.prog 97 #[v, u] w fun e w' => ∃ v', e = .returned v' ∧ Fresh w.heap.size w'.heap.size w' [v'] (matchT xs ys) ∧ Below w.heap.size w w' := by
  obtain ⟨a, cap, rfl, hs⟩ := rd_slice_elim (Rep.lt hv)
  obtain ⟨b, cbp, rfl, ht⟩ := rd_slice_elim (Rep.lt hu)
  go_enter Tryz.func97, Tryz.ntmps97
  go_wp2_with fail
  refine (l1Table_any _ _ xs ys _ hs.rd ht.rd hx hy).mono ?_
  rintro e wt ⟨v1, rfl, hT, hb1⟩
  obtain ⟨gt0, ct0, rfl, hT2⟩ := tab_shape hT
  have hsz1 := hb1.size
  go_wp2
  go_loopw [6, 7, 8] (fun out j i wr => (∃ (I J : Nat) (ol : List Int) (ao : Option Addr) (co : Nat), I ≤ xs.length ∧ J ≤ ys.length ∧ i = .int .i64 I ∧ j = .int .i64 J ∧ out = .slice ao ol.length co ∧ Fresh wt.heap.size wr.heap.size wr [.slice ao ol.length co] ol ∧ ol.length ≤ I ∧ Hid (matchT xs ys = ol ++ mt ys (xs.drop I) J)) ∧ Below wt.heap.size wt wr) (fun _ j i _ => (xs.length - (intOf i).toNat) + (ys.length - (intOf j).toNat))
  case atStart => exact ⟨⟨0, 0, [], some ⟨wt.heap.size, 0, none⟩, 0, by omega, by omega, rfl, rfl, rfl, (Fresh.empty (by decide) _ _ (Nat.le_refl _)).now, by simp, rfl⟩, (Below.refl _ _).alloc (Nat.le_refl _) _⟩
  case round =>
    obtain ⟨⟨I, J, ol, ao, co, hI, hJ, rfl, rfl, rfl, hF, hol, HM⟩, hbr⟩ := hrel
    obtain ⟨wo, rfl⟩ : ∃ wo : World, wo = wr := ⟨_, rfl⟩
    have hszr := hbr.size
    by_cases hi : I < xs.length
    · by_cases hj : J < ys.length
      · have hd2 : decide (J < ys.length) = true := decide_eq_true hj
        have hd3 : decide (ys.length ≤ J) = false := decide_eq_false (by omega)
        have hb := hb1.trans (hbr.mono hsz1)
        obtain ⟨g, off, rfl, hc, _⟩ := (hs.keep hb).str hi
        obtain ⟨g', off', rfl, hc', _⟩ := (ht.keep hb).str hj
        have hc := BW.cell hc
        have hc' := BW.cell hc'
        by_cases he : xs[I] = ys[J]
        · have he2 : decide (xs[I] = ys[J]) = true := decide_eq_true he
          have HE := Lib.hid (mtS_next HM.out hi hj he)
          clear he
          go_wp2
          refine wp_region_bw (by kernel_rfl) (by kernel_rfl) ?_
          repeat (go_big_quiet_step (fail))
          refine wpQuiet_nil ?_
          rintro w1 ⟨⟨_, hbw⟩, rfl⟩
          have hF1 := hF.below (Nat.le_refl _) hbw
          have hb2 := hbr.trans (hbw.mono hbr.size)
          have hsz2 := hb2.size
          clear hbw hc hc' hd2 he2 hd3
          obtain ⟨wo, rfl⟩ : ∃ wo : World, wo = w1 := ⟨_, rfl⟩
          go_wp2_with (at_builtin; go_must (refine wpList_app_one slz_int.slt rfl (.tmp 35) (.tmp 37) rfl rfl (hF1.alloc _) (le_alloc hsz2 _) rfl (heap_alloc_new _ _) (Fresh.leaf (α := Int) (m := wo.heap.size) (own_intm (J : Int) (by unfold I64; omega) _)) hszr (by omega) (by unfold maxLen; omega) ?_); intro a5 c5 w5 hG5)
          have hG := hG5.fresh
          go_roundw
          case rel => exact ⟨⟨I + 1, J + 1, ol ++ [(J : Int)], a5, c5, by omega, by omega, by go_num, by go_num, by simp, by rw [List.length_append]; exact hG, by simp <;> omega, HE.out⟩, (hb2.alloc hsz2 _).trans hG5.below⟩
          case measure => simp [intOf]; omega
        · have he2 : decide (xs[I] = ys[J]) = false := decide_eq_false he
          have hTr := hT2.keep hbr
          obtain ⟨b0, n0, hq0, hr0⟩ := tab_row hTr (r := I) (by omega)
          obtain ⟨b1, n1, hq1, hr1⟩ := tab_row hTr (r := I + 1) (by omega)
          obtain ⟨g1, o1, rfl, hp1⟩ := row_int hr1 (c := J) (by omega) (.inl (by omega))
          obtain ⟨g0, o0, rfl, hp0⟩ := row_int hr0 (c := J + 1) (by omega) (.inl (by omega))
          have e1 : IntKind.i64.wrap ((I : Int) + 1) = (I : Int) + 1 := IntWalk.i64_in _ (by omega)
          have e2 : IntKind.i64.wrap ((J : Int) + 1) = (J : Int) + 1 := IntWalk.i64_in _ (by omega)
          by_cases hz : lcAt xs ys I (J + 1) ≤ lcAt xs ys (I + 1) J
          · have HE := Lib.hid (mtS_skip HM.out hi hj he hz)
            have hzd : decide (lcAt xs ys I (J + 1) ≤ lcAt xs ys (I + 1) J) = true := decide_eq_true hz
            generalize lcAt xs ys (I + 1) J = z1 at hp1 hzd
            generalize lcAt xs ys I (J + 1) = z0 at hp0 hzd
            clear hz he
            go_wp2
            refine wp_region_bw (by kernel_rfl) (by kernel_rfl) ?_
            repeat (go_big_quiet_step (fail))
            refine wpQuiet_nil ?_
            rintro w1 ⟨⟨_, hbw⟩, rfl⟩
            have hF1 := hF.below (Nat.le_refl _) hbw
            have hb2 := hbr.trans (hbw.mono hbr.size)
            have hsz2 := hb2.size
            have hbw' := hbw
            clear hbw hc hc' he2 hd2
            have hq0 := BW.cell (keepc hq0 hbw')
            have hq1 := BW.cell (keepc hq1 hbw')
            have hp0 := BW.cell (keepc hp0 hbw')
            have hp1 := BW.cell (keepc hp1 hbw')
            obtain ⟨wo, rfl⟩ : ∃ wo : World, wo = w1 := ⟨_, rfl⟩
            go_wp2
            refine wp_region_bw (by kernel_rfl) (by kernel_rfl) ?_
            repeat (go_big_quiet_step (fail))
            refine wpQuiet_nil ?_
            rintro w1 ⟨⟨_, hbw⟩, rfl⟩
            have hF1 := hF1.below (Nat.le_refl _) hbw
            have hb2 := hb2.trans (hbw.mono hb2.size)
            have hsz2 := hb2.size
            clear hbw hq0 hq1 hp0 hp1 hzd e1 e2 hd3
            obtain ⟨wo, rfl⟩ : ∃ wo : World, wo = w1 := ⟨_, rfl⟩
            go_wp2_with (at_builtin; go_must (refine wpList_app_one slz_int.slt rfl (.tmp 67) (.tmp 68) rfl rfl (hF1.alloc _) (le_alloc hsz2 _) rfl (heap_alloc_new _ _) (Fresh.leaf (α := Int) (m := wo.heap.size) (own_intm (-1 : Int) (by unfold I64; omega) _)) hszr (by omega) (by unfold maxLen; omega) ?_); intro a5 c5 w5 hG5)
            have hG := hG5.fresh
            go_roundw
            case rel => exact ⟨⟨I + 1, J, ol ++ [(-1 : Int)], a5, c5, by omega, by omega, by go_num, by go_num, by simp, by rw [List.length_append]; exact hG, by simp <;> omega, HE.out⟩, (hb2.alloc hsz2 _).trans hG5.below⟩
            case measure => simp [intOf]; omega
          · have HE := Lib.hid (mtS_over HM.out hi hj he hz)
            have hzd : decide (lcAt xs ys I (J + 1) ≤ lcAt xs ys (I + 1) J) = false := decide_eq_false hz
            generalize lcAt xs ys (I + 1) J = z1 at hp1 hzd
            generalize lcAt xs ys I (J + 1) = z0 at hp0 hzd
            clear hz he
            go_wp2
            refine wp_region_bw (by kernel_rfl) (by kernel_rfl) ?_
            repeat (go_big_quiet_step (fail))
            refine wpQuiet_nil ?_
            rintro w1 ⟨⟨_, hbw⟩, rfl⟩
            have hF1 := hF.below (Nat.le_refl _) hbw
            have hb2 := hbr.trans (hbw.mono hbr.size)
            have hsz2 := hb2.size
            have hbw' := hbw
            clear hbw hc hc' he2 hd2
            have hq0 := BW.cell (keepc hq0 hbw')
            have hq1 := BW.cell (keepc hq1 hbw')
            have hp0 := BW.cell (keepc hp0 hbw')
            have hp1 := BW.cell (keepc hp1 hbw')
            obtain ⟨wo, rfl⟩ : ∃ wo : World, wo = w1 := ⟨_, rfl⟩
            go_wp2
            refine wp_region_bw (by kernel_rfl) (by kernel_rfl) ?_
            repeat (go_big_quiet_step (fail))
            refine wpQuiet_nil ?_
            rintro w1 ⟨⟨_, hbw⟩, rfl⟩
            have hF1 := (hF1.below (Nat.le_refl _) hbw).now
            have hb2 := hb2.trans (hbw.mono hb2.size)
            clear hbw hq0 hq1 hp0 hp1 hzd e1 e2 hd3
            go_wp2
            go_roundw
            case rel => exact ⟨⟨I, J + 1, ol, ao, co, by omega, by omega, rfl, by go_num, rfl, hF1, by omega, HE.out⟩, hb2⟩
            case measure => simp [intOf]; omega
      · have hd2 : decide (J < ys.length) = false := decide_eq_false hj
        have hd3 : decide (ys.length ≤ J) = true := decide_eq_true (by omega)
        have HE := Lib.hid (mtS_end HM.out hi hj)
        go_wp2
        refine wp_region_bw (by kernel_rfl) (by kernel_rfl) ?_
        repeat (go_big_quiet_step (fail))
        refine wpQuiet_nil ?_
        rintro w1 ⟨⟨_, hbw⟩, rfl⟩
        have hF1 := hF.below (Nat.le_refl _) hbw
        have hb2 := hbr.trans (hbw.mono hbr.size)
        have hsz2 := hb2.size
        clear hbw hd2
        obtain ⟨wo, rfl⟩ : ∃ wo : World, wo = w1 := ⟨_, rfl⟩
        go_wp2
        refine wp_region_bw (by kernel_rfl) (by kernel_rfl) ?_
        repeat (go_big_quiet_step (fail))
        refine wpQuiet_nil ?_
        rintro w1 ⟨⟨_, hbw⟩, rfl⟩
        have hF1 := hF1.below (Nat.le_refl _) hbw
        have hb2 := hb2.trans (hbw.mono hb2.size)
        have hsz2 := hb2.size
        clear hbw hd3
        obtain ⟨wo, rfl⟩ : ∃ wo : World, wo = w1 := ⟨_, rfl⟩
        go_wp2_with (at_builtin; go_must (refine wpList_app_one slz_int.slt rfl (.tmp 67) (.tmp 68) rfl rfl (hF1.alloc _) (le_alloc hsz2 _) rfl (heap_alloc_new _ _) (Fresh.leaf (α := Int) (m := wo.heap.size) (own_intm (-1 : Int) (by unfold I64; omega) _)) hszr (by omega) (by unfold maxLen; omega) ?_); intro a5 c5 w5 hG5)
        have hG := hG5.fresh
        go_roundw
        case rel => exact ⟨⟨I + 1, J, ol ++ [(-1 : Int)], a5, c5, by omega, by omega, by go_num, by go_num, by simp, by rw [List.length_append]; exact hG, by simp <;> omega, HE.out⟩, (hb2.alloc hsz2 _).trans hG5.below⟩
        case measure => simp [intOf]; omega
    · have HE := Lib.hid (mtS_out HM.out hi)
      go_wp2
      go_ret
      exact ⟨_, rfl, by rw [HE.out]; exact hF.mono hsz1 (Nat.le_refl _), hb1.trans (hbr.mono hsz1)⟩
end Go.Proofs.YthddcfbjgcbioaaGreatDoor
