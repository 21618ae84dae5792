/-
  Walks: all texts of a pack. / Walks: a text of a pack by its chain, how deep it is. / Walks: whether there is a pack. / Walks: sizes of packs, texts of packs. / Walks: a text of a pack.
-/
import Derived.Test.YtjfhbepnomnalaaPair
import Derived.Test.YtjfhbepnomnalaaPkA
import Derived.Test.YtjfhbepnomnalaaW10
import Derived.Test.YtjfhbepnomnalaaPlain5
set_option linter.unusedVariables false
namespace Go.Proofs.Ytjfhbepnomnalaa
open Go.RowKit Go.Vc
open Go.Vc.Rep (rd)
open Go.Vc.Own (own)

theorem slz_texts : SlZ Try.prog 62 (List ByteArray) 24 (.slice none 0 0) := by
  obtain ⟨i, h1, h2, h3, h4⟩ := info_parts (show (Try.prog.info? 29).map (fun i => (i.zero, i.size, i.bytes)) = some (some (.slice none 0 0), 1, 24) by kernel_rfl)
  exact ⟨Try.underlying62, ⟨i, h1, h2, h3, h4⟩, fun w => ⟨_, [], [], rfl, World.ownsRow_nil _ _ _ _, rfl, trivial, Nat.one_pos⟩, Nat.one_pos⟩
theorem slz_int : SlZ Try.prog 93 Int 8 (.int .i64 0) := by
  obtain ⟨i, h1, h2, h3, h4⟩ := info_parts (show (Try.prog.info? 3).map (fun i => (i.zero, i.size, i.bytes)) = some (some (.int .i64 0), 1, 8) by kernel_rfl)
  exact ⟨Try.underlying93, ⟨i, h1, h2, h3, h4⟩, fun w => ⟨rfl, rfl, i64_zero⟩, Nat.one_pos⟩
theorem implDo_is {S T : Nat → Prop} (v : Value) (xs : List ByteArray) (u : Value) (ds : List Delta) (w : World) (hv : rd S w [v] xs) (hu : rd T w [u] ds) {r : List ByteArray} {b : Bool} (h : dDo xs ds = (r, b)) :
    Calls Try.prog 29 #[v, u] w fun e w' => ∃ v', e = .returned (.tuple #[v', .bool b]) ∧ Fresh w.heap.size w'.heap.size w' [v'] r ∧ Below w.heap.size w w' :=
  (implDeltaDo v xs u ds w hv hu).mono fun e w' h' => by rw [h] at h'; exact h'
theorem within_is (n lo hi : Int) (w : World) {b : Bool} (h : withinB n lo hi = b) :
    Calls Try.prog 60 #[.int .i64 n, .int .i64 lo, .int .i64 hi] w fun e w' => e = .returned (.bool b) ∧ w = w' :=
  (within_any n lo hi w).mono fun e w' h' => by rw [← h]; exact h'
/-- a text of a list of texts -/
theorem slice_text {S : Nat → Prop} {w : World} {a : Option Addr} {cap : Nat} {xs : List (List ByteArray)} (h : IsSlice S w a cap xs) {i : Nat} (hi : i < xs.length) :
    ∃ g off b n, a = some ⟨g, off, none⟩ ∧ w.cell? ⟨g, off + i, none⟩ = some (.slice b xs[i].length n) ∧ IsSlice S w b n xs[i] := by
  obtain ⟨g, off, us, h1, _, h3, b, n, rfl, h5⟩ := h.elem hi
  exact ⟨g, off, b, n, h1, by have := h3 0 _ rfl; simpa [Rep.sz] using this, h5⟩

set_option maxHeartbeats 4000000 in
set_option maxRecDepth 100000 in
theorem unpack_any {S : Nat → Prop} (v : Value) (xs : List Packed) (w : World) (hv : rd S w [v] xs) :
    Calls Try.prog 77 #[v] w fun e w' => ∃ v', e = .returned (.tuple #[v', .bool (unp xs).isSome]) ∧ Fresh w.heap.size w'.heap.size w' [v'] ((unp xs).getD []) ∧ Below w.heap.size w w' := by
  obtain ⟨a, cap, rfl, hs⟩ := rd_slice_elim (Rep.lt hv)
  have hle := hs.le
  by_cases h12 : 12 < xs.length
  · have hu : unp xs = none := by rw [unp, if_pos h12]
    have HU := Lib.hid hu
    clear hu
    go_enter Try.func77, Try.ntmps77
    go_wp2
    go_ret2
    exact ⟨.slice none 0 0, by rw [HU.out]; rfl, by rw [HU.out]; exact Fresh.nil _ _ _ (by decide), Below.refl _ _⟩
  · have hu : Hid (unp xs = unpF (xs.drop 0) [] []) := by show _ = _; rw [unp, if_neg h12]; rfl
    go_enter Try.func77, Try.ntmps77
    go_wp2
    go_loopw [4, 5, 17] (fun t d i wr => (∃ (k : Nat) (tl : List (List ByteArray)) (dl : List Int), k ≤ xs.length ∧ i = .int .i64 k ∧ tl.length = k ∧ dl.length = k ∧ (∀ z, z ∈ dl → 1 ≤ z ∧ z ≤ 3) ∧ Fresh w.heap.size wr.heap.size wr [t, d] (tl, dl) ∧ Hid (unp xs = unpF (xs.drop k) tl dl)) ∧ Below w.heap.size w wr) (fun _ _ i _ => xs.length - (intOf i).toNat)
    case atStart => exact ⟨⟨0, [], [], by omega, rfl, rfl, rfl, (fun z hz => by cases hz), Fresh.pair_nil _ _ _ (by decide) (by decide), hu⟩, Below.refl _ _⟩
    case round =>
      obtain ⟨⟨k, tl, dl, hk, rfl, htl, hdl, hz, hF, HA⟩, hb⟩ := hrel
      have hsz := hb.size
      obtain ⟨at0, ct0, rfl, _⟩ := hF.fst.shape
      obtain ⟨ad0, cd0, rfl, _⟩ := hF.snd.shape
      have hFk := hF
      rw [htl, hdl] at hFk
      by_cases hlt : k < xs.length
      · obtain ⟨g, off, b, n, rfl, hc0, hc1, hi1, hl⟩ := (hs.keep hb).packed hlt
        obtain ⟨z, hz0⟩ : ∃ z, xs[k].base = z := ⟨_, rfl⟩
        rw [hz0] at hc0 hi1
        have HZ := Lib.hid hz0
        clear hz0
        cases hw : withinB z (-1) ((k : Int) - 1) with
        | false =>
          have HN := Lib.hid (unpF_bad1 HA.out hlt (by rw [HZ.out, htl]; exact hw))
          go_wp2_with fail
          refine (within_is _ _ _ _ hw).mono ?_
          rintro e w1 ⟨rfl, rfl⟩
          go_wp2
          go_ret2
          exact ⟨.slice none 0 0, by rw [HN.out]; rfl, by rw [HN.out]; exact Fresh.nil _ _ _ (by decide), hb.alloc hsz _⟩
        | true =>
          have hrng := (withinB_iff _ _ _).1 hw
          have HW := Lib.hid (show withinB xs[k].base (-1) ((tl.length : Int) - 1) = true by rw [HZ.out, htl]; exact hw)
          go_wp2_with fail
          refine (within_is _ _ _ _ hw).mono ?_
          rintro e w1 ⟨rfl, rfl⟩
          have hF1 := hFk.alloc (.cells #[.int .i64 z, .slice b xs[k].pcs.length n] 58)
          have hl1 := hl.alloc (.cells #[.int .i64 z, .slice b xs[k].pcs.length n] 58)
          have hb1 := hb.alloc hsz (.cells #[.int .i64 z, .slice b xs[k].pcs.length n] 58)
          have hq0 : (wr.alloc (.cells #[.int .i64 z, .slice b xs[k].pcs.length n] 58)).cell? ⟨wr.heap.size, 0, none⟩ = some (.int .i64 z) := by rw [cell_of_row _ _ 0 _ _ (0, 0) (heap_alloc_new _ _)]; rfl
          have hq1 : (wr.alloc (.cells #[.int .i64 z, .slice b xs[k].pcs.length n] 58)).cell? ⟨wr.heap.size, 1, none⟩ = some (.slice b xs[k].pcs.length n) := by rw [cell_of_row _ _ 1 _ _ (0, 0) (heap_alloc_new _ _)]; rfl
          by_cases h0 : 0 ≤ z
          · obtain ⟨q, rfl⟩ : ∃ q : Nat, z = (q : Int) := ⟨z.toNat, by omega⟩
            have hqk : q < k := by omega
            obtain ⟨gt, ot, bt, nt, rfl, ht0, hts⟩ := slice_text ((rd_slice_of hF1.fst.rd2).2) (i := q) (by omega)
            obtain ⟨gd, od, rfl, hd0, _⟩ := ((rd_slice_of hF1.snd.rd2).2).int (i := q) (by omega)
            have q0 := BW.cell hq0
            have q1 := BW.cell hq1
            have q2 := BW.cell ht0
            have q3 := BW.cell hd0
            have hqi : (q : Int) < k := by omega
            have hdm := hz _ (List.getElem_mem (show q < dl.length by omega))
            have hba : baseAt xs[k] tl dl = (tl[q], dl[q] + 1) := by
              unfold baseAt
              rw [HZ.out, if_pos h0, Int.toNat_natCast, List.getD_eq_getElem?_getD, List.getD_eq_getElem?_getD, List.getElem?_eq_getElem (by omega), List.getElem?_eq_getElem (by omega)]
              rfl
            have HB := Lib.hid hba
            clear hba
            go_wp2
            refine wp_region_bw (by kernel_rfl) (by kernel_rfl) ?_
            repeat (go_big_quiet_step (fail))
            refine wpQuiet_nil ?_
            rintro w1 ⟨⟨_, hbw⟩, rfl⟩
            have hF2 := hF1.below (Nat.le_refl _) hbw
            have hts2 := hts.below (Nat.le_refl _) hbw
            have hl2 := hl1.below (Nat.le_refl _) hbw
            have hb2 := hb1.trans (hbw.mono (by simp <;> omega))
            have hk1 := keepc hq1 hbw
            obtain ⟨r, ok, hr⟩ : ∃ r ok, dDo tl[q] xs[k].pcs = (r, ok) := ⟨_, _, rfl⟩
            go_wp2_with fail
            refine (implDo_is _ _ _ _ w1 (IsSlice.rd hts2) (IsSlice.rd hl2) hr).mono ?_
            rintro e w2 ⟨x, rfl, hX, hb3⟩
            obtain ⟨ax, cx, rfl, _⟩ := hX.shape
            have hF3 := (hF2.belowm (C := w1.heap.size) (by have := hbw.size; simp at this; omega) hb3)
            have hb4 := hb2.trans (hb3.mono (by have := hb2.size; omega))
            have hd1 := Lib.hid hr
            cases ok with
            | false =>
              have HN := Lib.hid (unpF_bad2 HA.out hlt HW.out (by rw [HB.out]; simp only; rw [hr]))
              go_wp2
              go_ret2
              exact ⟨.slice none 0 0, by rw [HN.out]; rfl, by rw [HN.out]; exact Fresh.nil _ _ _ (by decide), hb4⟩
            | true =>
              have hok : (dDo (baseAt xs[k] tl dl).1 xs[k].pcs).2 = true := by rw [HB.out]; simp only; rw [hr]
              by_cases h3 : 3 < dl[q] + 1
              · have HN := Lib.hid (unpF_bad3 HA.out hlt HW.out hok (by rw [HB.out]; exact h3))
                go_wp2
                go_ret2
                exact ⟨.slice none 0 0, by rw [HN.out]; rfl, by rw [HN.out]; exact Fresh.nil _ _ _ (by decide), hb4⟩
              · have HN := Lib.hid (unpF_next HA.out hlt HW.out hok (by rw [HB.out]; exact h3))
                have hF4 := hF3.mono (m' := w1.heap.size) (Nat.le_refl _) (by have := hbw.size; simp at this; omega)
                have hBm : w.heap.size ≤ w1.heap.size := hb2.size
                have hsz4 := hb4.size
                have hidp : I64 (dl[q] + 1) := by unfold I64; omega
                have hby1 : (tl.length + 1) * 24 ≤ 140737488355328 := by omega
                have hmx1 : tl.length + 1 ≤ maxLen := by unfold maxLen; omega
                have hby2 : (dl.length + 1) * 8 ≤ 140737488355328 := by omega
                have hmx2 : dl.length + 1 ≤ maxLen := by unfold maxLen; omega
                go_wp2_with (first
                  | (at_builtin; (refine wpList_app_fst slz_texts.slt rfl (.tmp 55) (.tmp 57) rfl rfl (hF4.alloc _) (le_alloc hsz4 _) rfl (heap_alloc_new _ _) (hX.alloc _) hBm hby1 hmx1 ?_); intro a5 c5 w5 hG5; have hsz5 := hG5.below.size; have hP5 := hG5.fresh; rw [htl] at hP5; have hb5 := (hb4.alloc hsz4 (.cells #[.slice ax r.length cx] (Tid.tid (List ByteArray)))).trans hG5.below)
                  | (at_builtin; go_must (refine wpList_app_snd slz_int.slt rfl (.tmp 59) (.tmp 61) rfl rfl (hP5.alloc _) (le_alloc hb5.size _) rfl (heap_alloc_new _ _) (Fresh.leaf (α := Int) (m := w5.heap.size + 1) ⟨rfl, rfl, hidp⟩) hb5.size hby2 hmx2 ?_); intro a6 c6 w6 hG6))
                go_roundw
                case rel =>
                  refine ⟨⟨k + 1, tl ++ [r], dl ++ [dl[q] + 1], by omega, by go_num, by simp; omega, by simp; omega, ?_, ?_, ?_⟩, (hb5.alloc hb5.size _).trans hG6.below⟩
                  · intro y hy
                    rcases List.mem_append.1 hy with hy | hy
                    · exact hz y hy
                    · simp at hy; omega
                  · have := hG6.fresh
                    simp only [hdl] at this
                    exact this
                  · have := HN.out
                    rw [HB.out] at this
                    simp only at this
                    rw [hr] at this
                    exact this
                case measure => simp [intOf]; omega
          · have hz1 : z = -1 := by omega
            subst hz1
            have hba : baseAt xs[k] tl dl = ([], 1) := by
              unfold baseAt
              rw [HZ.out, if_neg (by omega)]
            have HB := Lib.hid hba
            clear hba h0
            have q0 := BW.cell hq0
            have q1 := BW.cell hq1
            have hk1 := hq1
            obtain ⟨r, ok, hr⟩ : ∃ r ok, dDo [] xs[k].pcs = (r, ok) := ⟨_, _, rfl⟩
            go_wp2_with fail
            refine (implDo_is _ _ _ _ _ (rd_slice_nil (fun _ => False) _) (IsSlice.rd hl1) hr).mono ?_
            rintro e w2 ⟨x, rfl, hX, hb3⟩
            obtain ⟨ax, cx, rfl, _⟩ := hX.shape
            have hF3 := (hF1.below (Nat.le_refl _) hb3)
            have hb4 := hb1.trans (hb3.mono (by have := hb1.size; omega))
            have hd1 := Lib.hid hr
            cases ok with
            | false =>
              have HN := Lib.hid (unpF_bad2 HA.out hlt HW.out (by rw [HB.out]; simp only; rw [hr]))
              go_wp2
              go_ret2
              exact ⟨.slice none 0 0, by rw [HN.out]; rfl, by rw [HN.out]; exact Fresh.nil _ _ _ (by decide), hb4⟩
            | true =>
              have hok : (dDo (baseAt xs[k] tl dl).1 xs[k].pcs).2 = true := by rw [HB.out]; simp only; rw [hr]
              have h3 : ¬ (3 : Int) < 1 := by omega
              have HN := Lib.hid (unpF_next HA.out hlt HW.out hok (by rw [HB.out]; exact h3))
              have hF4 := hF3.mono (m' := (wr.alloc (.cells #[.int .i64 (-1), .slice b xs[k].pcs.length n] 58)).heap.size) (Nat.le_refl _) (by simp)
              have hBm : w.heap.size ≤ (wr.alloc (.cells #[.int .i64 (-1), .slice b xs[k].pcs.length n] 58)).heap.size := hb1.size
              have hsz4 := hb4.size
              have hidp : I64 (1) := by unfold I64; omega
              have hby1 : (tl.length + 1) * 24 ≤ 140737488355328 := by omega
              have hmx1 : tl.length + 1 ≤ maxLen := by unfold maxLen; omega
              have hby2 : (dl.length + 1) * 8 ≤ 140737488355328 := by omega
              have hmx2 : dl.length + 1 ≤ maxLen := by unfold maxLen; omega
              go_wp2_with (first
                | (at_builtin; (refine wpList_app_fst slz_texts.slt rfl (.tmp 55) (.tmp 57) rfl rfl (hF4.alloc _) (le_alloc hsz4 _) rfl (heap_alloc_new _ _) (hX.alloc _) hBm hby1 hmx1 ?_); intro a5 c5 w5 hG5; have hsz5 := hG5.below.size; have hP5 := hG5.fresh; rw [htl] at hP5; have hb5 := (hb4.alloc hsz4 (.cells #[.slice ax r.length cx] (Tid.tid (List ByteArray)))).trans hG5.below)
                | (at_builtin; go_must (refine wpList_app_snd slz_int.slt rfl (.tmp 59) (.tmp 61) rfl rfl (hP5.alloc _) (le_alloc hb5.size _) rfl (heap_alloc_new _ _) (Fresh.leaf (α := Int) (m := w5.heap.size + 1) ⟨rfl, rfl, hidp⟩) hb5.size hby2 hmx2 ?_); intro a6 c6 w6 hG6))
              go_roundw
              case rel =>
                refine ⟨⟨k + 1, tl ++ [r], dl ++ [1], by omega, by go_num, by simp; omega, by simp; omega, ?_, ?_, ?_⟩, (hb5.alloc hb5.size _).trans hG6.below⟩
                · intro y hy
                  rcases List.mem_append.1 hy with hy | hy
                  · exact hz y hy
                  · simp at hy; omega
                · have := hG6.fresh
                  simp only [hdl] at this
                  exact this
                · have := HN.out
                  rw [HB.out] at this
                  simp only at this
                  rw [hr] at this
                  exact this
              case measure => simp [intOf]; omega
      · have HN := Lib.hid (unpF_end HA.out hlt)
        go_wp2
        go_ret2
        exact ⟨_, by rw [HN.out]; rfl, by rw [HN.out]; exact hF.fst, hb⟩
end Go.Proofs.Ytjfhbepnomnalaa
namespace Go.Proofs.Ytjfhbepnomnalaa
open Go.RowKit Go.Vc
open Go.Vc.Rep (rd)
open Go.Vc.Own (own)

theorem doB_is {S T : Nat → Prop} (v : Value) (xs : List ByteArray) (u : Value) (ds : List Delta) (w : World) (hv : rd S w [v] xs) (hu : rd T w [u] ds) (hd : deltaB ds = true) {r : List ByteArray} {b : Bool} (h : doB xs ds = (r, b)) :
    Calls Try.prog 66 #[v, u] w fun e w' => ∃ v', e = .returned (.tuple #[v', .bool b]) ∧ Fresh w.heap.size w'.heap.size w' [v'] r ∧ Below w.heap.size w w' :=
  (l13Do_any v u xs ds w hv hu hd).mono fun e w' h' => by rw [h] at h'; exact h'

set_option maxHeartbeats 2000000 in
set_option maxRecDepth 100000 in
theorem l13Get_any {S : Nat → Prop} (xs : List Packed) (hfm : Hid (∀ j, PForm xs j)) : ∀ (n k : Nat) (v : Value) (w : World), rd S w [v] xs → k < n → k < xs.length → ∀ (r : List ByteArray) (b : Bool), getAt xs k = (r, b) →
    Calls Try.prog 81 #[v, .int .i64 k] w fun e w' => ∃ v', e = .returned (.tuple #[v', .bool b]) ∧ Fresh w.heap.size w'.heap.size w' [v'] r ∧ Below w.heap.size w w'
  | 0, k, _, _, _, h, _, _, _, _ => by omega
  | m + 1, k, v, w, hv, hkm, hlt, r, b, hr => by
    obtain ⟨a, cap, rfl, hs⟩ := rd_slice_elim (Rep.lt hv)
    have hle := hs.le
    obtain ⟨hf1, hf2, hf3⟩ := hfm.out k hlt
    have HF3 := Lib.hid hf3
    clear hf3
    obtain ⟨g, off, bl, n, rfl, hc0, hc1, hi1, hl⟩ := (hs.alloc (.cells #[] 9)).packed hlt
    by_cases h0 : xs[k].base = -1
    · have hg := getAt_none hlt h0
      rw [hg] at hr
      have HR := Lib.hid hr
      rw [h0] at hc0
      clear hg hr h0 hf1 hf2 hi1
      go_enter Try.func81, Try.ntmps81
      go_wp2_with fail
      have hb1 := (Below.refl w.heap.size w).alloc (Nat.le_refl _) (.cells #[] 9)
      refine (doB_is _ [] _ xs[k].pcs _ (Fresh.empty (β := ByteArray) (by decide) w.heap.size w (Nat.le_refl _)).rd hl.rd HF3.out HR.out).mono ?_
      rintro e w2 ⟨v', rfl, hF, hb2⟩
      go_wp2
      go_ret2
      exact ⟨v', rfl, hF.mono (by simp) (Nat.le_refl _), hb1.trans (hb2.mono (by simp))⟩
    · obtain ⟨q, hq⟩ : ∃ q : Nat, xs[k].base = q := ⟨xs[k].base.toNat, by omega⟩
      have hg := getAt_base hlt (fun j _ => hfm.out j) hq
      rw [hg] at hr
      have HR := Lib.hid hr
      rw [hq] at hc0 hf2
      have hqk : q < k := by omega
      clear hg hr h0 hf1 hf2 hi1 hq
      obtain ⟨rq, bq, hrq⟩ : ∃ r b, getAt xs q = (r, b) := ⟨_, _, rfl⟩
      have HRQ := Lib.hid hrq
      clear hrq
      have hs2 := hs.alloc (.cells #[] 9)
      have hb1 := (Below.refl w.heap.size w).alloc (Nat.le_refl _) (.cells #[] 9)
      have hlt2 : q < xs.length := by omega
      go_enter Try.func81, Try.ntmps81
      go_wp2_with fail
      refine (l13Get_any xs hfm m q _ _ hs2.rd (by omega) hlt2 rq bq HRQ.out).mono ?_
      rintro e w2 ⟨v2, rfl, hF2, hb2⟩
      have hl3 := hl.below (Nat.le_refl _) hb2
      have hc3 := keepc hc1 hb2
      have hb3 := hb1.trans (hb2.mono (by simp))
      cases bq with
      | false =>
        have HZ := Lib.hid (show (([] : List ByteArray), false) = (r, b) by have := HR.out; rw [HRQ.out] at this; simpa using this)
        go_wp2
        go_ret2
        have hz := HZ.out
        simp at hz
        obtain ⟨rfl, rfl⟩ := hz
        exact ⟨.slice none 0 0, rfl, Fresh.nil _ _ _ (by decide), hb3⟩
      | true =>
        have HZ := Lib.hid (show doB rq xs[k].pcs = (r, b) by have := HR.out; rw [HRQ.out] at this; simpa using this)
        go_wp2_with fail
        refine (doB_is _ rq _ xs[k].pcs _ hF2.rd hl3.rd HF3.out HZ.out).mono ?_
        rintro e w4 ⟨v4, rfl, hF4, hb4⟩
        go_wp2
        go_ret2
        exact ⟨v4, rfl, hF4.mono hb3.size (Nat.le_refl _), hb3.trans (hb4.mono hb3.size)⟩

set_option maxHeartbeats 1000000 in
theorem l13Deep_any {S : Nat → Prop} (xs : List Packed) (hfm : Hid (∀ j, PForm xs j)) (k : Nat) (v : Value) (w : World) (hv : rd S w [v] xs) (hk : k < xs.length) (hlen : xs.length ≤ 1048576) :
    Calls Try.prog 84 #[v, .int .i64 k] w fun e w' => e = .returned (.int .i64 (deepAt xs k)) ∧ w = w' := by
  obtain ⟨a, cap, rfl, hs⟩ := rd_slice_elim (Rep.lt hv)
  have hdl := deepAt_le hfm.out (k + 1) k (by omega) hk
  go_enter Try.func84, Try.ntmps84
  go_wp2
  go_loop [1, 5] (fun i n => ∃ q m : Nat, q < xs.length ∧ i = .int .i64 q ∧ 1 ≤ m ∧ m ≤ deepAt xs k ∧ n = .int .i64 m ∧ Hid (deepAt xs k + 1 = m + deepAt xs q)) (fun i _ => (intOf i).toNat)
  case atStart => exact ⟨k, 1, by omega, rfl, by omega, by omega, rfl, by show _ = _; omega⟩
  case round =>
    obtain ⟨q, m, hq, rfl, hm1, hm2, rfl, HA⟩ := hrel
    obtain ⟨hf1, hf2, _⟩ := hfm.out q hq
    obtain ⟨g, off, bl, n, rfl, hc0, hc1, hi1, hl⟩ := hs.packed hq
    by_cases h0 : xs[q].base = -1
    · have HD := Lib.hid (deepAt_none hq h0)
      rw [h0] at hc0
      clear h0 hi1 hf1 hf2
      go_wp2
      go_ret
      exact ⟨ret_int (by have h1 := HD.out; have h2 := HA.out; omega), rfl⟩
    · obtain ⟨p, hp⟩ : ∃ p : Nat, xs[q].base = p := ⟨xs[q].base.toNat, by omega⟩
      have HD := Lib.hid (deepAt_base hq (fun j _ => hfm.out j) hp)
      have hpl := deepAt_le hfm.out (p + 1) p (by omega) (by omega)
      have hHA := HA.out
      have hHD := HD.out
      have hmm : m + 1 ≤ deepAt xs k := by omega
      clear hHA hHD
      rw [hp] at hc0 hf2
      clear h0 hi1 hp
      go_wp2
      go_round
      case rel => exact ⟨p, m + 1, by omega, rfl, by omega, hmm, by go_num, by show _ = _; have h1 := HD.out; have h2 := HA.out; omega⟩
      case measure => simp [intOf]; omega
end Go.Proofs.Ytjfhbepnomnalaa
namespace Go.Proofs.Ytjfhbepnomnalaa
open Go.RowKit Go.Vc
open Go.Vc.Rep (rd)
open Go.Vc.Own (own)

theorem l1In_is (n lo hi : Int) (w : World) {b : Bool} (h : withinB n lo hi = b) :
    Calls Try.prog 80 #[.int .i64 n, .int .i64 lo, .int .i64 hi] w fun e w' => e = .returned (.bool b) ∧ w = w' :=
  (l1In_any n lo hi w).mono fun e w' h' => by rw [← h]; exact h'
theorem l13Ok_is {S : Nat → Prop} (v : Value) (xs : List Delta) (w : World) (hv : rd S w [v] xs) {b : Bool} (h : deltaB xs = b) :
    Calls Try.prog 58 #[v] w fun e w' => e = .returned (.bool b) ∧ Below w.heap.size w w' :=
  (l13Ok_any v xs w hv).mono fun e w' h' => by rw [← h]; exact h'

set_option maxHeartbeats 2000000 in
set_option maxRecDepth 100000 in
theorem l13PackOk_is {S : Nat → Prop} (v : Value) (xs : List Packed) (w : World) (hv : rd S w [v] xs) (hlen : xs.length ≤ 1048576) {b : Bool} (hb0 : packB xs = b) :
    Calls Try.prog 75 #[v] w fun e w' => e = .returned (.bool b) ∧ Below w.heap.size w w' := by
  obtain ⟨a, cap, rfl, hs⟩ := rd_slice_elim (Rep.lt hv)
  have hle := hs.le
  have HB := Lib.hid hb0
  clear hb0
  go_enter Try.func75, Try.ntmps75
  go_wp2
  go_loopw [3] (fun i wr => (∃ k : Nat, k ≤ xs.length ∧ i = .int .i64 k ∧ Hid (∀ j, j < k → PForm xs j)) ∧ Below w.heap.size w wr) (fun i _ => xs.length - (intOf i).toNat)
  case atStart => exact ⟨⟨0, by omega, rfl, by show ∀ _, _; intro j hj; omega⟩, Below.refl _ _⟩
  case round =>
    obtain ⟨⟨k, hk, rfl, HA⟩, hb⟩ := hrel
    by_cases hlt : k < xs.length
    · obtain ⟨g, off, bl, n, rfl, hc0, hc1, hi1, hl⟩ := (hs.keep hb).packed hlt
      cases h1 : withinB xs[k].base (-1) ((k : Int) - 1) with
      | false =>
        have HN := Lib.hid (packB_f hlt fun hG => by have := hG.1 hlt; rw [(withinB_iff _ _ _).2 ⟨this.1, this.2.1⟩] at h1; cases h1)
        go_wp2_with (go_at_call 80; refine (l1In_is _ _ _ _ h1).mono ?_; rintro e w' ⟨rfl, rfl⟩)
        go_ret
        exact ⟨ret_bool (by rw [← HB.out, HN.out]), hb⟩
      | true =>
        have hr := (withinB_iff _ _ _).1 h1
        cases h2 : deltaB xs[k].pcs with
        | false =>
          have HN := Lib.hid (packB_f hlt fun hG => by have := hG.1 hlt; rw [this.2.2] at h2; cases h2)
          clear hr
          go_wp2_with (first | (go_at_call 80; refine (l1In_is _ _ _ _ h1).mono ?_; rintro e w' ⟨rfl, rfl⟩) | (go_at_call 58; refine (l13Ok_is _ _ _ hl.rd h2).mono ?_; rintro e w' ⟨rfl, hbw⟩))
          go_ret
          exact ⟨ret_bool (by rw [← HB.out, HN.out]), hb.trans (hbw.mono hb.size)⟩
        | true =>
          have HF := Lib.hid (show PForm xs k from fun _ => ⟨hr.1, hr.2, h2⟩)
          clear hr
          go_wp2_with (first | (go_at_call 80; refine (l1In_is _ _ _ _ h1).mono ?_; rintro e w' ⟨rfl, rfl⟩) | (go_at_call 58; refine (l13Ok_is _ _ _ hl.rd h2).mono ?_; rintro e w' ⟨rfl, hbw⟩))
          go_roundw
          case rel => exact ⟨⟨k + 1, by omega, by go_num, by show ∀ _, _; intro j hj; by_cases e : j < k; exact HA.out j e; exact (show j = k by omega) ▸ HF.out⟩, hb.trans (hbw.mono hb.size)⟩
          case measure => simp [intOf]; omega
    · have hfm : Hid (∀ j, PForm xs j) := by
        show ∀ _, _
        intro j
        by_cases e : j < k
        · exact HA.out j e
        · exact fun h => by omega
      go_wp2
      go_loopw [4] (fun i wr => (∃ k : Nat, k ≤ xs.length ∧ i = .int .i64 k ∧ Hid (∀ j, j < k → PGood xs j)) ∧ Below w.heap.size w wr) (fun i _ => xs.length - (intOf i).toNat)
      case atStart => exact ⟨⟨0, by omega, rfl, by show ∀ _, _; intro j hj; omega⟩, hb⟩
      case round =>
        clear hlt hk HA hb
        obtain ⟨⟨k, hk, rfl, HA⟩, hb⟩ := hrel
        by_cases hlt : k < xs.length
        · obtain ⟨r, ok, hr⟩ : ∃ r ok, getAt xs k = (r, ok) := ⟨_, _, rfl⟩
          have HR := Lib.hid hr
          clear hr
          go_wp2_with fail
          refine (l13Get_any xs hfm (k + 1) k _ _ (hs.keep hb).rd (by omega) hlt r ok HR.out).mono ?_
          rintro e w2 ⟨v2, rfl, hF2, hb2⟩
          have hb3 := hb.trans (hb2.mono hb.size)
          have hdl := deepAt_le hfm.out (k + 1) k (by omega) hlt
          cases ok with
          | false =>
            have HN := Lib.hid (packB_f hlt fun hG => by have := hG.2.1; rw [HR.out] at this; cases this)
            go_wp2
            go_ret
            exact ⟨ret_bool (by rw [← HB.out, HN.out]), hb3⟩
          | true =>
            by_cases h3 : 3 < deepAt xs k
            · have h3' : decide ((3 : Int) < deepAt xs k) = true := decide_eq_true (by omega)
              have HN := Lib.hid (packB_f hlt fun hG => by have := hG.2.2; omega)
              go_wp2_with (go_at_call 84; refine (l13Deep_any xs hfm k _ _ (hs.keep hb3).rd hlt hlen).mono ?_; rintro e w' ⟨rfl, rfl⟩)
              go_ret
              exact ⟨ret_bool (by rw [← HB.out, HN.out]), hb3⟩
            · have h3' : decide ((3 : Int) < deepAt xs k) = false := decide_eq_false (by omega)
              have HG := Lib.hid (show PGood xs k from ⟨hfm.out k, by rw [HR.out], by omega⟩)
              go_wp2_with (go_at_call 84; refine (l13Deep_any xs hfm k _ _ (hs.keep hb3).rd hlt hlen).mono ?_; rintro e w' ⟨rfl, rfl⟩)
              go_roundw
              case rel => exact ⟨⟨k + 1, by omega, by go_num, by show ∀ _, _; intro j hj; by_cases e : j < k; exact HA.out j e; exact (show j = k by omega) ▸ HG.out⟩, hb3⟩
              case measure => simp [intOf]; omega
        · by_cases h12 : xs.length ≤ 12
          · have HN := Lib.hid (packB_t (fun j hj => HA.out j (by omega)) h12)
            have h12' : decide ((xs.length : Int) ≤ 12) = true := decide_eq_true (by omega)
            go_wp2
            go_ret
            exact ⟨ret_bool (by rw [← HB.out, HN.out]), hb⟩
          · have HN := Lib.hid (packB_long h12)
            have h12' : decide ((xs.length : Int) ≤ 12) = false := decide_eq_false (by omega)
            go_wp2
            go_ret
            exact ⟨ret_bool (by rw [← HB.out, HN.out]), hb⟩

theorem specPackOk_is {S : Nat → Prop} (v : Value) (xs : List Packed) (w : World) (hv : rd S w [v] xs) (hlen : xs.length ≤ 1048576) {b : Bool} (hb0 : packB xs = b) :
    Calls Try.prog 37 #[v] w fun e w' => e = .returned (.bool b) ∧ Below w.heap.size w w' := by
  go_enter Try.func37, Try.ntmps37
  go_wp2_with fail
  refine (l13PackOk_is v xs _ hv hlen hb0).mono ?_
  rintro e w2 ⟨rfl, hb⟩
  go_wp2
  go_ret
  exact ⟨rfl, hb⟩
theorem unpack_is {S : Nat → Prop} (v : Value) (xs : List Packed) (w : World) (hv : rd S w [v] xs) {b : Bool} {ts : List (List ByteArray)} (hb : packB xs = b) (hts : (unp xs).getD [] = ts) :
    Calls Try.prog 77 #[v] w fun e w' => ∃ v', e = .returned (.tuple #[v', .bool b]) ∧ Fresh w.heap.size w'.heap.size w' [v'] ts ∧ Below w.heap.size w w' :=
  (unpack_any v xs w hv).mono fun e w' h' => by rw [unp_ok, hb, hts] at h'; exact h'
theorem implPackOk_is {S : Nat → Prop} (v : Value) (xs : List Packed) (w : World) (hv : rd S w [v] xs) {b : Bool} (hb0 : packB xs = b) :
    Calls Try.prog 39 #[v] w fun e w' => e = .returned (.bool b) ∧ Below w.heap.size w w' := by
  go_enter Try.func39, Try.ntmps39
  go_wp2_with fail
  refine (unpack_is v xs _ hv hb0 rfl).mono ?_
  rintro e w2 ⟨v', rfl, _, hb⟩
  go_wp2
  go_ret
  exact ⟨rfl, hb⟩
end Go.Proofs.Ytjfhbepnomnalaa
namespace Go.Vc
open Go.RowKit
open Rep (rd)
open Own (own)

def sizeP (xs : List Packed) : Int := if packB xs = true then ((bsum (fun p => sizeD p.pcs) xs : Nat) : Int) else -1
theorem bsum_le_of {α : Type} {b : α → Nat} {m : Nat} : ∀ {xs : List α}, (∀ x, x ∈ xs → b x ≤ m) → bsum b xs ≤ m * xs.length
  | [], _ => by simp [bsum]
  | x :: r, h => by
    rw [bsum_cons, List.length_cons, Nat.mul_add]
    have h1 := h x (List.mem_cons_self ..)
    have h2 := bsum_le_of (fun y hy => h y (List.mem_cons_of_mem _ hy)) (xs := r)
    omega
theorem sizeD_le {ds : List Delta} (h : deltaB ds = true) : sizeD ds ≤ 110 := by
  have h1 := deltaB_len h
  have h2 := bsum_le_of (b := fun d : Delta => d.lines.length) (m := 10) (xs := ds) fun d hd => by
    obtain ⟨k, hk, rfl⟩ := List.getElem_of_mem hd
    exact (piece_facts (deltaB_at h hk)).2.2.2.2.1
  unfold sizeD
  omega
theorem sizeP_le {xs : List Packed} (h : packB xs = true) : bsum (fun p => sizeD p.pcs) xs ≤ 1320 := by
  obtain ⟨h1, h2⟩ := packB_of h
  have := bsum_le_of (b := fun p : Packed => sizeD p.pcs) (m := 110) (xs := xs) fun p hp => by
    obtain ⟨k, hk, rfl⟩ := List.getElem_of_mem hp
    exact sizeD_le ((h1 k hk).1 hk).2.2
  omega
def pget (xs : List Packed) (k : Int) : List ByteArray × Bool := if packB xs = true then (if withinB k 0 ((xs.length : Int) - 1) = true then getAt xs k.toNat else ([], false)) else ([], false)
theorem Fresh.elem1 {α : Type} [Own α] [Tid α] (hz : Rep.sz α = 1) {B m : Nat} {w : World} {v : Value} {xs : List α} (h : Fresh B m w [v] xs) {i : Nat} (hi : i < xs.length) :
    ∃ g cap u, v = .slice (some ⟨g, 0, none⟩) xs.length cap ∧ w.cell? ⟨g, i, none⟩ = some u ∧ Fresh B m w [u] xs[i] := by
  obtain ⟨a, cap, rfl, _⟩ := h.shape
  obtain ⟨g, rfl, _⟩ := h.addr (by omega)
  obtain ⟨F, ho, hn, hb⟩ := h
  obtain ⟨c, Fi, h1, h2, h3, _, _, h6, _⟩ := own_focus ho hn hi
  have hl := Rep.len (Own.rd_of h1)
  rw [hz] at hl
  match c, hl with
  | [u], _ =>
    have := h6 0 u rfl
    rw [hz, Nat.mul_one, Nat.add_zero] at this
    exact ⟨g, cap, u, rfl, this, Fi, h1, h3, fun b hm => hb b (h2 b hm)⟩
end Go.Vc
namespace Go.Proofs.Ytjfhbepnomnalaa
open Go.RowKit Go.Vc
open Go.Vc.Rep (rd)
open Go.Vc.Own (own)

set_option maxHeartbeats 1000000 in
theorem sizeOf_is {S : Nat → Prop} (v : Value) (xs : List Delta) (w : World) (hv : rd S w [v] xs) (hm : sizeD xs ≤ 1048576) :
    Calls Try.prog 83 #[v] w fun e w' => e = .returned (.int .i64 (sizeD xs)) ∧ Below w.heap.size w w' := by
  obtain ⟨a, cap, rfl, hs⟩ := rd_slice_elim (Rep.lt hv)
  have hle := hs.le
  unfold sizeD at hm ⊢
  go_enter Try.func83, Try.ntmps83
  go_wp2
  go_loopw [3, 10] (fun m i wr => (∃ k s : Nat, k ≤ xs.length ∧ i = .int .i64 k ∧ m = .int .i64 s ∧ s + bsum (fun d => d.lines.length) (xs.drop k) ≤ 1048576 ∧ Hid (xs.length + bsum (fun d => d.lines.length) xs = s + bsum (fun d => d.lines.length) (xs.drop k))) ∧ Below w.heap.size w wr) (fun _ i _ => xs.length - (intOf i).toNat)
  case atStart => exact ⟨⟨0, xs.length, by omega, rfl, rfl, by simpa using hm, by show _ = _; simp⟩, Below.refl _ _⟩
  case round =>
    obtain ⟨⟨k, s, hk, rfl, rfl, hms, HA⟩, hb⟩ := hrel
    by_cases hlt : k < xs.length
    · obtain ⟨g, off, b, n, rfl, hc0, hc1, hc2, _, _, hl⟩ := (hs.keep hb).delta hlt
      have hn := bsum_drop (fun d : Delta => d.lines.length) xs k hlt
      have hms1 : s + xs[k].lines.length + bsum (fun d => d.lines.length) (xs.drop (k + 1)) ≤ 1048576 := by omega
      have hms2 : s + xs[k].lines.length ≤ 1048576 := by omega
      have HN := Lib.hid hn
      clear hn hms
      go_wp2
      go_roundw
      case rel => exact ⟨⟨k + 1, s + xs[k].lines.length, by omega, by go_num, by go_num, hms1, by show _ = _; rw [HA.out, HN.out]; omega⟩, hb.alloc hb.size _⟩
      case measure => simp [intOf]; omega
    · have hz := bsum_end (fun d : Delta => d.lines.length) xs k hlt
      have HZ := Lib.hid hz
      clear hz
      go_wp2
      go_ret
      exact ⟨ret_int (by rw [HA.out, HZ.out]; omega), hb⟩

set_option maxHeartbeats 1000000 in
theorem l13Size_is {S : Nat → Prop} (v : Value) (xs : List Delta) (w : World) (hv : rd S w [v] xs) (hm : sizeD xs ≤ 1048576) :
    Calls Try.prog 82 #[v] w fun e w' => e = .returned (.int .i64 (sizeD xs)) ∧ Below w.heap.size w w' := by
  obtain ⟨a, cap, rfl, hs⟩ := rd_slice_elim (Rep.lt hv)
  have hle := hs.le
  unfold sizeD at hm ⊢
  go_enter Try.func82, Try.ntmps82
  go_wp2
  go_loopw [3, 4] (fun m i wr => (∃ k s : Nat, k ≤ xs.length ∧ i = .int .i64 k ∧ m = .int .i64 s ∧ s + bsum (fun d => d.lines.length) (xs.drop k) ≤ 1048576 ∧ Hid (xs.length + bsum (fun d => d.lines.length) xs = s + bsum (fun d => d.lines.length) (xs.drop k))) ∧ Below w.heap.size w wr) (fun _ i _ => xs.length - (intOf i).toNat)
  case atStart => exact ⟨⟨0, xs.length, by omega, rfl, rfl, by simpa using hm, by show _ = _; simp⟩, Below.refl _ _⟩
  case round =>
    obtain ⟨⟨k, s, hk, rfl, rfl, hms, HA⟩, hb⟩ := hrel
    by_cases hlt : k < xs.length
    · obtain ⟨g, off, b, n, rfl, hc0, hc1, hc2, _, _, hl⟩ := (hs.keep hb).delta hlt
      have hn := bsum_drop (fun d : Delta => d.lines.length) xs k hlt
      have hms1 : s + xs[k].lines.length + bsum (fun d => d.lines.length) (xs.drop (k + 1)) ≤ 1048576 := by omega
      have hms2 : s + xs[k].lines.length ≤ 1048576 := by omega
      have HN := Lib.hid hn
      clear hn hms
      go_wp2
      go_roundw
      case rel => exact ⟨⟨k + 1, s + xs[k].lines.length, by omega, by go_num, by go_num, hms1, by show _ = _; rw [HA.out, HN.out]; omega⟩, hb⟩
      case measure => simp [intOf]; omega
    · have hz := bsum_end (fun d : Delta => d.lines.length) xs k hlt
      have HZ := Lib.hid hz
      clear hz
      go_wp2
      go_ret
      exact ⟨ret_int (by rw [HA.out, HZ.out]; omega), hb⟩

set_option maxHeartbeats 1000000 in
theorem implPackSize {S : Nat → Prop} (v : Value) (xs : List Packed) (w : World) (hv : rd S w [v] xs) :
    Calls Try.prog 45 #[v] w fun e w' => e = .returned (.int .i64 (sizeP xs)) ∧ Below w.heap.size w w' := by
  obtain ⟨a, cap, rfl, hs⟩ := rd_slice_elim (Rep.lt hv)
  have hle := hs.le
  cases hp : packB xs with
  | false =>
    have HS := Lib.hid (show sizeP xs = -1 by rw [sizeP, if_neg (by rw [hp]; simp)])
    go_enter Try.func45, Try.ntmps45
    go_wp2_with fail
    refine (implPackOk_is _ xs _ hs.rd hp).mono ?_
    rintro e w1 ⟨rfl, hb⟩
    go_wp2
    go_ret
    exact ⟨ret_int HS.out.symm, hb⟩
  | true =>
    have hsl := sizeP_le hp
    have hgood := packB_of hp
    have HS := Lib.hid (show sizeP xs = (bsum (fun p => sizeD p.pcs) xs : Nat) by rw [sizeP, if_pos hp])
    have HG := Lib.hid (show ∀ k (h : k < xs.length), sizeD xs[k].pcs ≤ 110 from fun k hk => sizeD_le ((hgood.1 k hk).1 hk).2.2)
    clear hgood
    go_enter Try.func45, Try.ntmps45
    go_wp2_with fail
    refine (implPackOk_is _ xs _ hs.rd hp).mono ?_
    rintro e w1 ⟨rfl, hb0⟩
    clear hp
    go_wp2
    go_loopw [3, 11] (fun m i wr => (∃ k s : Nat, k ≤ xs.length ∧ i = .int .i64 k ∧ m = .int .i64 s ∧ s + bsum (fun p => sizeD p.pcs) (xs.drop k) ≤ 1320 ∧ Hid (bsum (fun p => sizeD p.pcs) xs = s + bsum (fun p => sizeD p.pcs) (xs.drop k))) ∧ Below w.heap.size w wr) (fun _ i _ => xs.length - (intOf i).toNat)
    case atStart => exact ⟨⟨0, 0, by omega, rfl, rfl, by simpa using hsl, by show _ = _; simp⟩, hb0⟩
    case round =>
      clear hsl hb0
      obtain ⟨⟨k, s, hk, rfl, rfl, hms, HA⟩, hb⟩ := hrel
      by_cases hlt : k < xs.length
      · obtain ⟨g, off, b, n, rfl, hc0, hc1, hi1, hl⟩ := (hs.keep hb).packed hlt
        have hn := bsum_drop (fun p : Packed => sizeD p.pcs) xs k hlt
        have hms1 : s + sizeD xs[k].pcs + bsum (fun p => sizeD p.pcs) (xs.drop (k + 1)) ≤ 1320 := by omega
        have hms2 : s + sizeD xs[k].pcs ≤ 1320 := by omega
        have HN := Lib.hid hn
        clear hn hms
        have hg := HG.out k hlt
        go_wp2_with fail
        refine (sizeOf_is _ _ _ (hl.alloc _).rd (by omega)).mono ?_
        rintro e w2 ⟨rfl, hb2⟩
        go_wp2
        go_roundw
        case rel => exact ⟨⟨k + 1, s + sizeD xs[k].pcs, by omega, by go_num, by go_num, hms1, by show _ = _; rw [HA.out, HN.out]; omega⟩, (hb.alloc hb.size _).trans (hb2.mono (by have := hb.size; simp; omega))⟩
        case measure => simp [intOf]; omega
      · have hz := bsum_end (fun p : Packed => sizeD p.pcs) xs k hlt
        have HZ := Lib.hid hz
        clear hz
        go_wp2
        go_ret
        exact ⟨ret_int (by rw [HS.out, HA.out, HZ.out]; omega), hb⟩

set_option maxHeartbeats 1000000 in
theorem specPackSize {S : Nat → Prop} (v : Value) (xs : List Packed) (w : World) (hv : rd S w [v] xs) (hlen : xs.length ≤ 1048576) :
    Calls Try.prog 44 #[v] w fun e w' => e = .returned (.int .i64 (sizeP xs)) ∧ Below w.heap.size w w' := by
  obtain ⟨a, cap, rfl, hs⟩ := rd_slice_elim (Rep.lt hv)
  have hle := hs.le
  cases hp : packB xs with
  | false =>
    have HS := Lib.hid (show sizeP xs = -1 by rw [sizeP, if_neg (by rw [hp]; simp)])
    go_enter Try.func44, Try.ntmps44
    go_wp2_with fail
    refine (l13PackOk_is _ xs _ hs.rd hlen hp).mono ?_
    rintro e w1 ⟨rfl, hb⟩
    go_wp2
    go_ret
    exact ⟨ret_int HS.out.symm, hb⟩
  | true =>
    have hsl := sizeP_le hp
    have hgood := packB_of hp
    have HS := Lib.hid (show sizeP xs = (bsum (fun p => sizeD p.pcs) xs : Nat) by rw [sizeP, if_pos hp])
    have HG := Lib.hid (show ∀ k (h : k < xs.length), sizeD xs[k].pcs ≤ 110 from fun k hk => sizeD_le ((hgood.1 k hk).1 hk).2.2)
    clear hgood
    go_enter Try.func44, Try.ntmps44
    go_wp2_with fail
    refine (l13PackOk_is _ xs _ hs.rd hlen hp).mono ?_
    rintro e w1 ⟨rfl, hb0⟩
    clear hp
    go_wp2
    go_loopw [3, 4] (fun m i wr => (∃ k s : Nat, k ≤ xs.length ∧ i = .int .i64 k ∧ m = .int .i64 s ∧ s + bsum (fun p => sizeD p.pcs) (xs.drop k) ≤ 1320 ∧ Hid (bsum (fun p => sizeD p.pcs) xs = s + bsum (fun p => sizeD p.pcs) (xs.drop k))) ∧ Below w.heap.size w wr) (fun _ i _ => xs.length - (intOf i).toNat)
    case atStart => exact ⟨⟨0, 0, by omega, rfl, rfl, by simpa using hsl, by show _ = _; simp⟩, hb0⟩
    case round =>
      clear hsl hb0
      obtain ⟨⟨k, s, hk, rfl, rfl, hms, HA⟩, hb⟩ := hrel
      by_cases hlt : k < xs.length
      · obtain ⟨g, off, b, n, rfl, hc0, hc1, hi1, hl⟩ := (hs.keep hb).packed hlt
        have hn := bsum_drop (fun p : Packed => sizeD p.pcs) xs k hlt
        have hms1 : s + sizeD xs[k].pcs + bsum (fun p => sizeD p.pcs) (xs.drop (k + 1)) ≤ 1320 := by omega
        have hms2 : s + sizeD xs[k].pcs ≤ 1320 := by omega
        have HN := Lib.hid hn
        clear hn hms
        have hg := HG.out k hlt
        go_wp2_with fail
        refine (l13Size_is _ _ _ hl.rd (by omega)).mono ?_
        rintro e w2 ⟨rfl, hb2⟩
        go_wp2
        go_roundw
        case rel => exact ⟨⟨k + 1, s + sizeD xs[k].pcs, by omega, by go_num, by go_num, hms1, by show _ = _; rw [HA.out, HN.out]; omega⟩, hb.trans (hb2.mono hb.size)⟩
        case measure => simp [intOf]; omega
      · have hz := bsum_end (fun p : Packed => sizeD p.pcs) xs k hlt
        have HZ := Lib.hid hz
        clear hz
        go_wp2
        go_ret
        exact ⟨ret_int (by rw [HS.out, HA.out, HZ.out]; omega), hb⟩
end Go.Proofs.Ytjfhbepnomnalaa
namespace Go.Vc
theorem pget_bad {xs : List Packed} {k : Int} (h : packB xs = false) : pget xs k = ([], false) := by rw [pget, if_neg (by rw [h]; simp)]
theorem pget_out {xs : List Packed} {k : Int} (h : packB xs = true) (h1 : withinB k 0 ((xs.length : Int) - 1) = false) : pget xs k = ([], false) := by rw [pget, if_pos h, if_neg (by rw [h1]; simp)]
theorem pget_in {xs : List Packed} {k : Nat} (h : packB xs = true) (h1 : k < xs.length) : pget xs k = ((getAt xs k).1, true) := by
  have hw : withinB k 0 ((xs.length : Int) - 1) = true := (withinB_iff _ _ _).2 ⟨by omega, by omega⟩
  rw [pget, if_pos h, if_pos hw]
  show getAt xs k = _
  have := ((packB_of h).1 k h1).2.1
  rw [← this]
end Go.Vc
namespace Go.Proofs.Ytjfhbepnomnalaa
open Go.RowKit Go.Vc
open Go.Vc.Rep (rd)
open Go.Vc.Own (own)

set_option maxHeartbeats 1000000 in
theorem implPackGet {S : Nat → Prop} (v : Value) (xs : List Packed) (k : Int) (w : World) (hv : rd S w [v] xs) (hk : I64 k) :
    Calls Try.prog 42 #[v, .int .i64 k] w fun e w' => ∃ v', e = .returned (.tuple #[v', .bool (pget xs k).2]) ∧ Fresh w.heap.size w'.heap.size w' [v'] (pget xs k).1 ∧ Below w.heap.size w w' := by
  obtain ⟨a, cap, rfl, hs⟩ := rd_slice_elim (Rep.lt hv)
  have hle := hs.le
  cases hp : packB xs with
  | false =>
    have HN := Lib.hid (pget_bad (k := k) hp)
    go_enter Try.func42, Try.ntmps42
    go_wp2_with fail
    refine (unpack_is _ xs _ hs.rd hp rfl).mono ?_
    rintro e w1 ⟨v', rfl, _, hb⟩
    clear hp
    go_wp2
    go_ret2
    exact ⟨.slice none 0 0, by rw [HN.out]; rfl, by rw [HN.out]; exact Fresh.nil _ _ _ (by decide), hb⟩
  | true =>
    rcases unp_is xs with ⟨_, ts, hts, hl, hg⟩ | ⟨h, _⟩
    · have HG := Lib.hid hg
      clear hg
      cases hw : withinB k 0 ((xs.length : Int) - 1) with
      | false =>
        have HN := Lib.hid (pget_out hp hw)
        go_enter Try.func42, Try.ntmps42
        go_wp2_with fail
        refine (unpack_is _ xs _ hs.rd hp (ts := ts) (by rw [hts]; rfl)).mono ?_
        rintro e w1 ⟨v', rfl, _, hb⟩
        clear hp hts
        go_wp2_with fail
        refine (within_is _ _ _ _ hw).mono ?_
        rintro e w2 ⟨rfl, rfl⟩
        go_wp2
        go_ret2
        exact ⟨.slice none 0 0, by rw [HN.out]; rfl, by rw [HN.out]; exact Fresh.nil _ _ _ (by decide), hb⟩
      | true =>
        have hr := (withinB_iff _ _ _).1 hw
        obtain ⟨q, rfl⟩ : ∃ q : Nat, k = (q : Int) := ⟨k.toNat, by omega⟩
        have hq : q < xs.length := by omega
        have HN := Lib.hid (pget_in hp hq)
        go_enter Try.func42, Try.ntmps42
        go_wp2_with fail
        refine (unpack_is _ xs _ hs.rd hp (ts := ts) (by rw [hts]; rfl)).mono ?_
        rintro e w1 ⟨v', rfl, hF, hb⟩
        clear hp hts
        go_wp2_with fail
        refine (within_is _ _ _ _ hw).mono ?_
        rintro e w2 ⟨rfl, rfl⟩
        obtain ⟨g, c, u, rfl, hu, hF2⟩ := hF.elem1 rfl (i := q) (by omega)
        have hlt : q < ts.length := by omega
        have HE := Lib.hid (show ts[q] = (getAt xs q).1 by
          have := HG.out q hq
          rw [List.getD_eq_getElem?_getD, List.getElem?_eq_getElem hlt] at this
          exact this)
        go_wp2
        go_ret2
        exact ⟨u, by rw [HN.out]; rfl, by rw [HN.out, ← HE.out]; exact hF2, hb⟩
    · rw [h] at hp; cases hp

set_option maxHeartbeats 1000000 in
theorem specPackGet {S : Nat → Prop} (v : Value) (xs : List Packed) (k : Int) (w : World) (hv : rd S w [v] xs) (hk : I64 k) (hlen : xs.length ≤ 1048576) :
    Calls Try.prog 43 #[v, .int .i64 k] w fun e w' => ∃ v', e = .returned (.tuple #[v', .bool (pget xs k).2]) ∧ Fresh w.heap.size w'.heap.size w' [v'] (pget xs k).1 ∧ Below w.heap.size w w' := by
  obtain ⟨a, cap, rfl, hs⟩ := rd_slice_elim (Rep.lt hv)
  have hle := hs.le
  cases hp : packB xs with
  | false =>
    have HN := Lib.hid (pget_bad (k := k) hp)
    go_enter Try.func43, Try.ntmps43
    go_wp2_with fail
    refine (l13PackOk_is _ xs _ hs.rd hlen hp).mono ?_
    rintro e w1 ⟨rfl, hb⟩
    clear hp
    go_wp2
    go_ret2
    exact ⟨.slice none 0 0, by rw [HN.out]; rfl, by rw [HN.out]; exact Fresh.nil _ _ _ (by decide), hb⟩
  | true =>
    cases hw : withinB k 0 ((xs.length : Int) - 1) with
    | false =>
      have HN := Lib.hid (pget_out hp hw)
      go_enter Try.func43, Try.ntmps43
      go_wp2_with fail
      refine (l13PackOk_is _ xs _ hs.rd hlen hp).mono ?_
      rintro e w1 ⟨rfl, hb⟩
      clear hp
      go_wp2_with fail
      refine (l1In_is _ _ _ _ hw).mono ?_
      rintro e w2 ⟨rfl, rfl⟩
      go_wp2
      go_ret2
      exact ⟨.slice none 0 0, by rw [HN.out]; rfl, by rw [HN.out]; exact Fresh.nil _ _ _ (by decide), hb⟩
    | true =>
      have hr := (withinB_iff _ _ _).1 hw
      obtain ⟨q, rfl⟩ : ∃ q : Nat, k = (q : Int) := ⟨k.toNat, by omega⟩
      have hq : q < xs.length := by omega
      have HN := Lib.hid (pget_in hp hq)
      have hgd := packB_of hp
      have hfm : Hid (∀ j, PForm xs j) := by
        show ∀ _, _
        exact fun j hj => (hgd.1 j hj).1 hj
      have HR := Lib.hid (show getAt xs q = ((getAt xs q).1, true) by have := (hgd.1 q hq).2.1; rw [← this])
      clear hgd
      go_enter Try.func43, Try.ntmps43
      go_wp2_with fail
      refine (l13PackOk_is _ xs _ hs.rd hlen hp).mono ?_
      rintro e w1 ⟨rfl, hb⟩
      clear hp
      go_wp2_with fail
      refine (l1In_is _ _ _ _ hw).mono ?_
      rintro e w2 ⟨rfl, rfl⟩
      go_wp2_with fail
      refine (l13Get_any xs hfm (q + 1) q _ _ (hs.keep hb).rd (by omega) hq _ _ HR.out).mono ?_
      rintro e w2 ⟨v2, rfl, hF2, hb2⟩
      go_wp2
      go_ret2
      exact ⟨v2, by rw [HN.out]; rfl, by rw [HN.out]; exact hF2.mono hb.size (Nat.le_refl _), hb.trans (hb2.mono hb.size)⟩
end Go.Proofs.Ytjfhbepnomnalaa
