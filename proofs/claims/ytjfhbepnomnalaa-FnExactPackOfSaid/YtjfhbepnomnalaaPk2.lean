/-
  Walks: all texts of a pack.
-/
import Derived.Test.YtjfhbepnomnalaaPair
import Derived.Test.YtjfhbepnomnalaaPkP
import Derived.Test.YtjfhbepnomnalaaW10
import Derived.Test.YtjfhbepnomnalaaPlain5
set_option linter.unusedVariables false
namespace Go.Proofs.Ytjfhbepnomnalaa
open Go.RowKit Go.Vc
open Go.Vc.Rep (rd)
open Go.Vc.Own (own)

theorem slz_texts : SlZ Try.prog 62 (List ByteArray) 24 (.slice none 0 0) := by
  obtain ⟨i, h1, h2, h3, h4⟩ := info_parts (show (Try.prog.info? 29).map (fun i => (i.zero, i.size, i.bytes)) = some (some (.slice none 0 0), 1, 24) by kernel_rfl)
  exact ⟨Try.underlying62, ⟨i, h1, h2, h3, h4⟩, fun w => ⟨_, [], [], rfl, World.ownsRow_nil _ _ _ _, rfl, trivial, Nat.one_pos⟩, Nat.one_pos⟩
theorem slz_int : SlZ Try.prog 93 Int 8 (.int .i64 0) := by
  obtain ⟨i, h1, h2, h3, h4⟩ := info_parts (show (Try.prog.info? 3).map (fun i => (i.zero, i.size, i.bytes)) = some (some (.int .i64 0), 1, 8) by kernel_rfl)
  exact ⟨Try.underlying93, ⟨i, h1, h2, h3, h4⟩, fun w => ⟨rfl, rfl, i64_zero⟩, Nat.one_pos⟩
theorem implDo_is {S T : Nat → Prop} (v : Value) (xs : List ByteArray) (u : Value) (ds : List Delta) (w : World) (hv : rd S w [v] xs) (hu : rd T w [u] ds) {r : List ByteArray} {b : Bool} (h : dDo xs ds = (r, b)) :
    Calls Try.prog 29 #[v, u] w fun e w' => ∃ v', e = .returned (.tuple #[v', .bool b]) ∧ Fresh w.heap.size w'.heap.size w' [v'] r ∧ Below w.heap.size w w' :=
  (implDeltaDo v xs u ds w hv hu).mono fun e w' h' => by rw [h] at h'; exact h'
theorem within_is (n lo hi : Int) (w : World) {b : Bool} (h : withinB n lo hi = b) :
    Calls Try.prog 60 #[.int .i64 n, .int .i64 lo, .int .i64 hi] w fun e w' => e = .returned (.bool b) ∧ w = w' :=
  (within_any n lo hi w).mono fun e w' h' => by rw [← h]; exact h'
/-- a text of a list of texts -/
theorem slice_text {S : Nat → Prop} {w : World} {a : Option Addr} {cap : Nat} {xs : List (List ByteArray)} (h : IsSlice S w a cap xs) {i : Nat} (hi : i < xs.length) :
    ∃ g off b n, a = some ⟨g, off, none⟩ ∧ w.cell? ⟨g, off + i, none⟩ = some (.slice b xs[i].length n) ∧ IsSlice S w b n xs[i] := by
  obtain ⟨g, off, us, h1, _, h3, b, n, rfl, h5⟩ := h.elem hi
  exact ⟨g, off, b, n, h1, by have := h3 0 _ rfl; simpa [Rep.sz] using this, h5⟩

set_option maxHeartbeats 4000000 in
set_option maxRecDepth 100000 in
theorem unpack_any {S : Nat → Prop} (v : Value) (xs : List Packed) (w : World) (hv : rd S w [v] xs) :
    Calls Try.prog 77 #[v] w fun e w' => ∃ v', e = .returned (.tuple #[v', .bool (unp xs).isSome]) ∧ Fresh w.heap.size w'.heap.size w' [v'] ((unp xs).getD []) ∧ Below w.heap.size w w' := by
  obtain ⟨a, cap, rfl, hs⟩ := rd_slice_elim (Rep.lt hv)
  have hle := hs.le
  by_cases h12 : 12 < xs.length
  · have hu : unp xs = none := by rw [unp, if_pos h12]
    have HU := Lib.hid hu
    clear hu
    go_enter Try.func77, Try.ntmps77
    go_wp2
    go_ret2
    exact ⟨.slice none 0 0, by rw [HU.out]; rfl, by rw [HU.out]; exact Fresh.nil _ _ _ (by decide), Below.refl _ _⟩
  · have hu : Hid (unp xs = unpF (xs.drop 0) [] []) := by show _ = _; rw [unp, if_neg h12]; rfl
    go_enter Try.func77, Try.ntmps77
    go_wp2
    go_loopw [4, 5, 17] (fun t d i wr => (∃ (k : Nat) (tl : List (List ByteArray)) (dl : List Int), k ≤ xs.length ∧ i = .int .i64 k ∧ tl.length = k ∧ dl.length = k ∧ (∀ z, z ∈ dl → 1 ≤ z ∧ z ≤ 3) ∧ Fresh w.heap.size wr.heap.size wr [t, d] (tl, dl) ∧ Hid (unp xs = unpF (xs.drop k) tl dl)) ∧ Below w.heap.size w wr) (fun _ _ i _ => xs.length - (intOf i).toNat)
    case atStart => exact ⟨⟨0, [], [], by omega, rfl, rfl, rfl, (fun z hz => by cases hz), Fresh.pair_nil _ _ _ (by decide) (by decide), hu⟩, Below.refl _ _⟩
    case round =>
      obtain ⟨⟨k, tl, dl, hk, rfl, htl, hdl, hz, hF, HA⟩, hb⟩ := hrel
      have hsz := hb.size
      obtain ⟨at0, ct0, rfl, _⟩ := hF.fst.shape
      obtain ⟨ad0, cd0, rfl, _⟩ := hF.snd.shape
      have hFk := hF
      rw [htl, hdl] at hFk
      by_cases hlt : k < xs.length
      · obtain ⟨g, off, b, n, rfl, hc0, hc1, hi1, hl⟩ := (hs.keep hb).packed hlt
        obtain ⟨z, hz0⟩ : ∃ z, xs[k].base = z := ⟨_, rfl⟩
        rw [hz0] at hc0 hi1
        have HZ := Lib.hid hz0
        clear hz0
        cases hw : withinB z (-1) ((k : Int) - 1) with
        | false =>
          have HN := Lib.hid (unpF_bad1 HA.out hlt (by rw [HZ.out, htl]; exact hw))
          go_wp2_with fail
          refine (within_is _ _ _ _ hw).mono ?_
          rintro e w1 ⟨rfl, rfl⟩
          go_wp2
          go_ret2
          exact ⟨.slice none 0 0, by rw [HN.out]; rfl, by rw [HN.out]; exact Fresh.nil _ _ _ (by decide), hb.alloc hsz _⟩
        | true =>
          have hrng := (withinB_iff _ _ _).1 hw
          have HW := Lib.hid (show withinB xs[k].base (-1) ((tl.length : Int) - 1) = true by rw [HZ.out, htl]; exact hw)
          go_wp2_with fail
          refine (within_is _ _ _ _ hw).mono ?_
          rintro e w1 ⟨rfl, rfl⟩
          have hF1 := hFk.alloc (.cells #[.int .i64 z, .slice b xs[k].pcs.length n] 58)
          have hl1 := hl.alloc (.cells #[.int .i64 z, .slice b xs[k].pcs.length n] 58)
          have hb1 := hb.alloc hsz (.cells #[.int .i64 z, .slice b xs[k].pcs.length n] 58)
          have hq0 : (wr.alloc (.cells #[.int .i64 z, .slice b xs[k].pcs.length n] 58)).cell? ⟨wr.heap.size, 0, none⟩ = some (.int .i64 z) := by rw [cell_of_row _ _ 0 _ _ (0, 0) (heap_alloc_new _ _)]; rfl
          have hq1 : (wr.alloc (.cells #[.int .i64 z, .slice b xs[k].pcs.length n] 58)).cell? ⟨wr.heap.size, 1, none⟩ = some (.slice b xs[k].pcs.length n) := by rw [cell_of_row _ _ 1 _ _ (0, 0) (heap_alloc_new _ _)]; rfl
          by_cases h0 : 0 ≤ z
          · obtain ⟨q, rfl⟩ : ∃ q : Nat, z = (q : Int) := ⟨z.toNat, by omega⟩
            have hqk : q < k := by omega
            obtain ⟨gt, ot, bt, nt, rfl, ht0, hts⟩ := slice_text ((rd_slice_of hF1.fst.rd2).2) (i := q) (by omega)
            obtain ⟨gd, od, rfl, hd0, _⟩ := ((rd_slice_of hF1.snd.rd2).2).int (i := q) (by omega)
            have q0 := BW.cell hq0
            have q1 := BW.cell hq1
            have q2 := BW.cell ht0
            have q3 := BW.cell hd0
            have hqi : (q : Int) < k := by omega
            have hdm := hz _ (List.getElem_mem (show q < dl.length by omega))
            have hba : baseAt xs[k] tl dl = (tl[q], dl[q] + 1) := by
              unfold baseAt
              rw [HZ.out, if_pos h0, Int.toNat_natCast, List.getD_eq_getElem?_getD, List.getD_eq_getElem?_getD, List.getElem?_eq_getElem (by omega), List.getElem?_eq_getElem (by omega)]
              rfl
            have HB := Lib.hid hba
            clear hba
            go_wp2
            refine wp_region_bw (by kernel_rfl) (by kernel_rfl) ?_
            repeat (go_big_quiet_step (fail))
            refine wpQuiet_nil ?_
            rintro w1 ⟨⟨_, hbw⟩, rfl⟩
            have hF2 := hF1.below (Nat.le_refl _) hbw
            have hts2 := hts.below (Nat.le_refl _) hbw
            have hl2 := hl1.below (Nat.le_refl _) hbw
            have hb2 := hb1.trans (hbw.mono (by simp <;> omega))
            have hk1 := keepc hq1 hbw
            obtain ⟨r, ok, hr⟩ : ∃ r ok, dDo tl[q] xs[k].pcs = (r, ok) := ⟨_, _, rfl⟩
            go_wp2_with fail
            refine (implDo_is _ _ _ _ w1 (IsSlice.rd hts2) (IsSlice.rd hl2) hr).mono ?_
            rintro e w2 ⟨x, rfl, hX, hb3⟩
            obtain ⟨ax, cx, rfl, _⟩ := hX.shape
            have hF3 := (hF2.belowm (C := w1.heap.size) (by have := hbw.size; simp at this; omega) hb3)
            have hb4 := hb2.trans (hb3.mono (by have := hb2.size; omega))
            have hd1 := Lib.hid hr
            cases ok with
            | false =>
              have HN := Lib.hid (unpF_bad2 HA.out hlt HW.out (by rw [HB.out]; simp only; rw [hr]))
              go_wp2
              go_ret2
              exact ⟨.slice none 0 0, by rw [HN.out]; rfl, by rw [HN.out]; exact Fresh.nil _ _ _ (by decide), hb4⟩
            | true =>
              have hok : (dDo (baseAt xs[k] tl dl).1 xs[k].pcs).2 = true := by rw [HB.out]; simp only; rw [hr]
              by_cases h3 : 3 < dl[q] + 1
              · have HN := Lib.hid (unpF_bad3 HA.out hlt HW.out hok (by rw [HB.out]; exact h3))
                go_wp2
                go_ret2
                exact ⟨.slice none 0 0, by rw [HN.out]; rfl, by rw [HN.out]; exact Fresh.nil _ _ _ (by decide), hb4⟩
              · have HN := Lib.hid (unpF_next HA.out hlt HW.out hok (by rw [HB.out]; exact h3))
                have hF4 := hF3.mono (m' := w1.heap.size) (Nat.le_refl _) (by have := hbw.size; simp at this; omega)
                have hBm : w.heap.size ≤ w1.heap.size := hb2.size
                have hsz4 := hb4.size
                have hidp : I64 (dl[q] + 1) := by unfold I64; omega
                have hby1 : (tl.length + 1) * 24 ≤ 140737488355328 := by omega
                have hmx1 : tl.length + 1 ≤ maxLen := by unfold maxLen; omega
                have hby2 : (dl.length + 1) * 8 ≤ 140737488355328 := by omega
                have hmx2 : dl.length + 1 ≤ maxLen := by unfold maxLen; omega
                go_wp2_with (first
                  | (at_builtin; (refine wpList_app_fst slz_texts.slt rfl (.tmp 55) (.tmp 57) rfl rfl (hF4.alloc _) (le_alloc hsz4 _) rfl (heap_alloc_new _ _) (hX.alloc _) hBm hby1 hmx1 ?_); intro a5 c5 w5 hG5; have hsz5 := hG5.below.size; have hP5 := hG5.fresh; rw [htl] at hP5; have hb5 := (hb4.alloc hsz4 (.cells #[.slice ax r.length cx] (Tid.tid (List ByteArray)))).trans hG5.below)
                  | (at_builtin; go_must (refine wpList_app_snd slz_int.slt rfl (.tmp 59) (.tmp 61) rfl rfl (hP5.alloc _) (le_alloc hb5.size _) rfl (heap_alloc_new _ _) (Fresh.leaf (α := Int) (m := w5.heap.size + 1) ⟨rfl, rfl, hidp⟩) hb5.size hby2 hmx2 ?_); intro a6 c6 w6 hG6))
                go_roundw
                case rel =>
                  refine ⟨⟨k + 1, tl ++ [r], dl ++ [dl[q] + 1], by omega, by go_num, by simp; omega, by simp; omega, ?_, ?_, ?_⟩, (hb5.alloc hb5.size _).trans hG6.below⟩
                  · intro y hy
                    rcases List.mem_append.1 hy with hy | hy
                    · exact hz y hy
                    · simp at hy; omega
                  · have := hG6.fresh
                    simp only [hdl] at this
                    exact this
                  · have := HN.out
                    rw [HB.out] at this
                    simp only at this
                    rw [hr] at this
                    exact this
                case measure => simp [intOf]; omega
          · have hz1 : z = -1 := by omega
            subst hz1
            have hba : baseAt xs[k] tl dl = ([], 1) := by
              unfold baseAt
              rw [HZ.out, if_neg (by omega)]
            have HB := Lib.hid hba
            clear hba h0
            have q0 := BW.cell hq0
            have q1 := BW.cell hq1
            have hk1 := hq1
            obtain ⟨r, ok, hr⟩ : ∃ r ok, dDo [] xs[k].pcs = (r, ok) := ⟨_, _, rfl⟩
            go_wp2_with fail
            refine (implDo_is _ _ _ _ _ (rd_slice_nil (fun _ => False) _) (IsSlice.rd hl1) hr).mono ?_
            rintro e w2 ⟨x, rfl, hX, hb3⟩
            obtain ⟨ax, cx, rfl, _⟩ := hX.shape
            have hF3 := (hF1.below (Nat.le_refl _) hb3)
            have hb4 := hb1.trans (hb3.mono (by have := hb1.size; omega))
            have hd1 := Lib.hid hr
            cases ok with
            | false =>
              have HN := Lib.hid (unpF_bad2 HA.out hlt HW.out (by rw [HB.out]; simp only; rw [hr]))
              go_wp2
              go_ret2
              exact ⟨.slice none 0 0, by rw [HN.out]; rfl, by rw [HN.out]; exact Fresh.nil _ _ _ (by decide), hb4⟩
            | true =>
              have hok : (dDo (baseAt xs[k] tl dl).1 xs[k].pcs).2 = true := by rw [HB.out]; simp only; rw [hr]
              have h3 : ¬ (3 : Int) < 1 := by omega
              have HN := Lib.hid (unpF_next HA.out hlt HW.out hok (by rw [HB.out]; exact h3))
              have hF4 := hF3.mono (m' := (wr.alloc (.cells #[.int .i64 (-1), .slice b xs[k].pcs.length n] 58)).heap.size) (Nat.le_refl _) (by simp)
              have hBm : w.heap.size ≤ (wr.alloc (.cells #[.int .i64 (-1), .slice b xs[k].pcs.length n] 58)).heap.size := hb1.size
              have hsz4 := hb4.size
              have hidp : I64 (1) := by unfold I64; omega
              have hby1 : (tl.length + 1) * 24 ≤ 140737488355328 := by omega
              have hmx1 : tl.length + 1 ≤ maxLen := by unfold maxLen; omega
              have hby2 : (dl.length + 1) * 8 ≤ 140737488355328 := by omega
              have hmx2 : dl.length + 1 ≤ maxLen := by unfold maxLen; omega
              go_wp2_with (first
                | (at_builtin; (refine wpList_app_fst slz_texts.slt rfl (.tmp 55) (.tmp 57) rfl rfl (hF4.alloc _) (le_alloc hsz4 _) rfl (heap_alloc_new _ _) (hX.alloc _) hBm hby1 hmx1 ?_); intro a5 c5 w5 hG5; have hsz5 := hG5.below.size; have hP5 := hG5.fresh; rw [htl] at hP5; have hb5 := (hb4.alloc hsz4 (.cells #[.slice ax r.length cx] (Tid.tid (List ByteArray)))).trans hG5.below)
                | (at_builtin; go_must (refine wpList_app_snd slz_int.slt rfl (.tmp 59) (.tmp 61) rfl rfl (hP5.alloc _) (le_alloc hb5.size _) rfl (heap_alloc_new _ _) (Fresh.leaf (α := Int) (m := w5.heap.size + 1) ⟨rfl, rfl, hidp⟩) hb5.size hby2 hmx2 ?_); intro a6 c6 w6 hG6))
              go_roundw
              case rel =>
                refine ⟨⟨k + 1, tl ++ [r], dl ++ [1], by omega, by go_num, by simp; omega, by simp; omega, ?_, ?_, ?_⟩, (hb5.alloc hb5.size _).trans hG6.below⟩
                · intro y hy
                  rcases List.mem_append.1 hy with hy | hy
                  · exact hz y hy
                  · simp at hy; omega
                · have := hG6.fresh
                  simp only [hdl] at this
                  exact this
                · have := HN.out
                  rw [HB.out] at this
                  simp only at this
                  rw [hr] at this
                  exact this
              case measure => simp [intOf]; omega
      · have HN := Lib.hid (unpF_end HA.out hlt)
        go_wp2
        go_ret2
        exact ⟨_, by rw [HN.out]; rfl, by rw [HN.out]; exact hF.fst, hb⟩
end Go.Proofs.Ytjfhbepnomnalaa
