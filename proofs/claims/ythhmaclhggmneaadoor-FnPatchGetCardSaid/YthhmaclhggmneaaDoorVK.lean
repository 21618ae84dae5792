/-
  Walks: whether there are branches, as the program has it. / Slices of bools. / Literals of strings and of ints, as slices. No program is in sight here. / Walks: which commits come from which, as the program has it.
-/
import Derived.Test.YthhmaclhggmneaaDoorVI
import Derived.Test.YthhmaclhggmneaaDoorVJ
import Derived.Test.YthhmaclhggmneaaDoorVTY
import Derived.Test.YthhmaclhggmneaaDoorVB
import Derived.Test.YthhmaclhggmneaaDoorVC
set_option linter.unusedVariables false
namespace Go.Proofs.YthhmaclhggmneaaDoor
open Go.RowKit Go.Vc
open Go.Vc.Rep (rd)
open Go.Vc.Own (own)

set_option maxHeartbeats 1000000 in
theorem exists_is {S : Nat → Prop} (v0 v1 : Value) (cs : List Commit) (at_ : Int) (w : World) (h0 : rd S w [v0] cs) {b : Bool} (h : withinB at_ 0 ((cs.length : Int) - 1) = b) :
    Calls Tryd.prog 101 #[.agg #[v0, v1], .int .i64 at_] w fun e w' => e = .returned (.bool b) ∧ Below w.heap.size w w' := by
  subst h
  obtain ⟨a, cap, rfl, hs⟩ := rd_slice_elim h0
  have hle := hs.le
  go_enter Tryd.func101, Tryd.ntmps101
  go_wp2_with fail
  refine (within_any _ _ _ _).mono ?_
  rintro e w' ⟨rfl, rfl⟩
  go_wp2
  go_ret
  exact ⟨rfl, ((Below.refl _ _).alloc (by simp <;> omega) _)⟩

set_option maxHeartbeats 8000000 in
set_option maxRecDepth 100000 in
theorem headsOk_is {S T : Nat → Prop} (v0 v1 u : Value) (cs : List Commit) (xs : List Head) (w : World) (h0 : rd S w [v0] cs) (hu : rd T w [u] xs) {b : Bool} (h : headsB cs.length xs = b) :
    Calls Tryd.prog 69 #[.agg #[v0, v1], u] w fun e w' => e = .returned (.bool b) ∧ Below w.heap.size w w' := by
  subst h
  obtain ⟨a0, c0, rfl, hs0⟩ := rd_slice_elim (Rep.lt h0)
  obtain ⟨a, cap, rfl, hs⟩ := rd_slice_elim (Rep.lt hu)
  have hle := hs.le
  obtain ⟨wb, hwb⟩ : ∃ wb, wb = w.alloc (.cells #[.slice a0 cs.length c0, v1] 30) := ⟨_, rfl⟩
  obtain ⟨hB0, _, hq⟩ := boxed (vs := [.slice a0 cs.length c0, v1]) hwb
  have q0 := hq 0 _ rfl
  have q1 := hq 1 _ rfl
  have HW := Lib.hid hwb
  clear hwb hq
  by_cases h5 : xs.length ≤ 5
  · have d5 : decide ((5 : Int) < xs.length) = false := decide_eq_false (by omega)
    have HP := Lib.hid (heads_few (n := cs.length) h5)
    clear h5
    go_enter Tryd.func69, Tryd.ntmps69
    go_wp2
    rw [← HW.out]
    go_loopw [12] (fun i wr => (∃ k : Nat, k ≤ xs.length ∧ i = .int .i64 k ∧ Hid (∀ j, j < k → headAt cs.length xs j = true)) ∧ Below wb.heap.size wb wr) (fun i _ => xs.length - (intOf i).toNat)
    case atStart => exact ⟨⟨0, by omega, rfl, by show ∀ _, _; intro j hj; omega⟩, Below.refl _ _⟩
    case round =>
      obtain ⟨⟨k, hk, rfl, HA⟩, hbr⟩ := hrel
      have hb := hB0.trans (hbr.mono hB0.size)
      by_cases hlt : k < xs.length
      · have hsr := hs.below (Nat.le_refl _) hb
        obtain ⟨g, off, rfl, hc1, hc2, hz1, hz2⟩ := hsr.branch hlt
        obtain ⟨wc, hwc⟩ : ∃ wc, wc = wr.alloc (.cells #[.string xs[k].name, .int .i64 xs[k].at_] 57) := ⟨_, rfl⟩
        obtain ⟨hB1, _, hq⟩ := boxed (vs := [.string xs[k].name, .int .i64 xs[k].at_]) hwc
        have r0 := BW.cell (hq 0 _ rfl)
        have r1 := BW.cell (hq 1 _ rfl)
        have hbB := hb.trans (hB1.mono hb.size)
        have hbR := hbr.trans (hB1.mono hbr.size)
        have p0 := BW.cell (keepc (keepc q0 hbr) hB1)
        have p1 := BW.cell (keepc (keepc q1 hbr) hB1)
        have hcs := hs0.below (Nat.le_refl _) hbB
        have HC := Lib.hid hwc
        clear hwc hq
        cases hn : nameB xs[k].name with
        | false =>
          have HN := Lib.hid (heads_f hlt (headAt_name (n := cs.length) hlt hn))
          go_wp2
          rw [← HC.out]
          refine wp_region_bw (by kernel_rfl) (by kernel_rfl) ?_
          repeat (go_big_quiet_step ((go_at_call 67; exact Calls.bw_same (nameOk_is _ _ hz1 hn))))
          refine wpQuiet_nil ?_
          rintro w1 ⟨⟨_, hbw⟩, rfl⟩
          go_wp2
          go_ret
          exact ⟨ret_bool (by rw [HP.out, HN.out]), hbB.trans (hbw.mono hbB.size)⟩
        | true =>
          cases ha : withinB xs[k].at_ 0 ((cs.length : Int) - 1) with
          | false =>
            have HN := Lib.hid (heads_f hlt (headAt_at (n := cs.length) hlt ha))
            go_wp2
            rw [← HC.out]
            refine wp_region_bw (by kernel_rfl) (by kernel_rfl) ?_
            repeat (go_big_quiet_step ((first | (go_at_call 67; exact Calls.bw_same (nameOk_is _ _ hz1 hn)) | (go_at_call 101; exact Calls.bw (exists_is _ _ cs _ _ (hcs.bw _).rd ha)))))
            refine wpQuiet_nil ?_
            rintro w1 ⟨⟨_, hbw⟩, rfl⟩
            go_wp2
            go_ret
            exact ⟨ret_bool (by rw [HP.out, HN.out]), hbB.trans (hbw.mono hbB.size)⟩
          | true =>
            by_cases hk0 : 0 < k
            · have hk0' : decide (0 < k) = true := decide_eq_true hk0
              obtain ⟨g', off', hg, hc1', hc2', hz1', hz2'⟩ := hsr.branch (i := k - 1) (by omega)
              obtain ⟨rfl, rfl⟩ : g = g' ∧ off = off' := by simpa using hg
              have pc' := BW.cell (keepc (w' := wc) (hb := hB1) hc1')
              cases hl : lessB (xs[k - 1]'(by omega)).name xs[k].name with
              | false =>
                have hl' : Op.bytesLess (xs[k - 1]'(by omega)).name.toList xs[k].name.toList = false := hl
                have HN := Lib.hid (heads_f hlt (headAt_step (n := cs.length) hk0 hlt hl))
                clear hg hl
                have e0 : IntKind.i64.wrap ((k : Int) - 1) = (k : Int) - 1 := IntWalk.i64_in _ (by omega)
                have e1 : ((k : Int) - 1).toNat = k - 1 := by omega
                have e2 : (0 : Int) ≤ (k : Int) - 1 := by omega
                go_wp2
                rw [← HC.out]
                refine wp_region_bw (by kernel_rfl) (by kernel_rfl) ?_
                repeat (go_big_quiet_step ((first | (go_at_call 67; exact Calls.bw_same (nameOk_is _ _ hz1 hn)) | (go_at_call 101; exact Calls.bw (exists_is _ _ cs _ _ (hcs.bw _).rd ha)))))
                refine wpQuiet_nil ?_
                rintro w1 ⟨⟨_, hbw⟩, rfl⟩
                clear e0 e1
                go_wp2
                go_ret
                exact ⟨ret_bool (by rw [HP.out, HN.out]), hbB.trans (hbw.mono hbB.size)⟩
              | true =>
                have hl' : Op.bytesLess (xs[k - 1]'(by omega)).name.toList xs[k].name.toList = true := hl
                have HS := Lib.hid (headAt_pos hk0 hlt hn ha hl)
                clear hg hl
                have e0 : IntKind.i64.wrap ((k : Int) - 1) = (k : Int) - 1 := IntWalk.i64_in _ (by omega)
                have e1 : ((k : Int) - 1).toNat = k - 1 := by omega
                have e2 : (0 : Int) ≤ (k : Int) - 1 := by omega
                go_wp2
                rw [← HC.out]
                refine wp_region_bw (by kernel_rfl) (by kernel_rfl) ?_
                repeat (go_big_quiet_step ((first | (go_at_call 67; exact Calls.bw_same (nameOk_is _ _ hz1 hn)) | (go_at_call 101; exact Calls.bw (exists_is _ _ cs _ _ (hcs.bw _).rd ha)))))
                refine wpQuiet_nil ?_
                rintro w1 ⟨⟨_, hbw⟩, rfl⟩
                clear e0 e1
                go_wp2
                go_roundw
                case rel => exact ⟨⟨k + 1, by omega, by go_num, by show ∀ _, _; intro j hj; by_cases e : j < k; exact HA.out j e; exact (show j = k by omega) ▸ HS.out⟩, hbR.trans (hbw.mono hbR.size)⟩
                case measure => simp [intOf]; omega
            · have hk0' : decide (0 < k) = false := decide_eq_false hk0
              have HS := Lib.hid (headAt_first (by omega) hlt hn ha)
              go_wp2
              rw [← HC.out]
              refine wp_region_bw (by kernel_rfl) (by kernel_rfl) ?_
              repeat (go_big_quiet_step ((first | (go_at_call 67; exact Calls.bw_same (nameOk_is _ _ hz1 hn)) | (go_at_call 101; exact Calls.bw (exists_is _ _ cs _ _ (hcs.bw _).rd ha)))))
              refine wpQuiet_nil ?_
              rintro w1 ⟨⟨_, hbw⟩, rfl⟩
              go_wp2
              go_roundw
              case rel => exact ⟨⟨k + 1, by omega, by go_num, by show ∀ _, _; intro j hj; by_cases e : j < k; exact HA.out j e; exact (show j = k by omega) ▸ HS.out⟩, hbR.trans (hbw.mono hbR.size)⟩
              case measure => simp [intOf]; omega
      · have HN := Lib.hid (heads_t (n := cs.length) (t := xs) fun i hi => HA.out i (by omega))
        go_wp2
        go_ret
        exact ⟨ret_bool (by rw [HP.out, HN.out]), hb⟩
  · have d5 : decide ((5 : Int) < xs.length) = true := decide_eq_true (by omega)
    have HP := Lib.hid (heads_long (n := cs.length) h5)
    clear h5
    go_enter Tryd.func69, Tryd.ntmps69
    go_wp2
    go_ret
    exact ⟨ret_bool HP.out.symm, by rw [← HW.out]; exact hB0⟩
end Go.Proofs.YthhmaclhggmneaaDoor
namespace Go.Vc
open Go.RowKit
open Rep (rd)
open Own (own)
theorem IsSlice.bool {S : Nat → Prop} {w : World} {a : Option Addr} {cap : Nat} {xs : List Bool} (h : IsSlice S w a cap xs) {i : Nat} (hi : i < xs.length) :
    ∃ g off, a = some ⟨g, off, none⟩ ∧ w.cell? ⟨g, off + i, none⟩ = some (.bool xs[i]) := by
  obtain ⟨g, off, us, h1, _, h3, h4⟩ := h.elem hi
  subst h4
  refine ⟨g, off, h1, ?_⟩
  have := h3 0 _ rfl
  simpa [Rep.sz] using this
/-- a bool of an own slice -/
theorem Fresh.boolAt [Tid Bool] {B m g n cap : Nat} {w : World} {xs : List Bool} (h : Fresh B m w [.slice (some ⟨g, 0, none⟩) n cap] xs) {i : Nat} (hi : i < xs.length) : w.cell? ⟨g, i, none⟩ = some (.bool xs[i]) := by
  obtain ⟨hn, hs⟩ := rd_slice_of h.rd2
  obtain ⟨g', off, hg, hc⟩ := hs.bool hi
  obtain ⟨rfl, rfl⟩ : g = g' ∧ 0 = off := by simpa using hg
  simpa using hc
theorem ownAll_none {α : Type} [Own α] [Leaf α] {w : World} : ∀ (Fs : List (List Nat)) (cs : List (List Value)) (xs : List α), ownAll w Fs cs xs → Fs.flatten = []
  | [], _, _, _ => rfl
  | F :: Fs, c :: cs, x :: xs, h => by
    have h1 := Leaf.none h.1
    have h2 := ownAll_none Fs cs xs h.2
    simp [h1, h2]
  | _ :: _, [], _, h => h.elim
  | _ :: _, _ :: _, [], h => h.elim
/-- an own slice of leaves has one block -/
theorem Fresh.one {α : Type} [Own α] [Tid α] [Leaf α] {B m g n cap : Nat} {w : World} {xs : List α} (h : Fresh B m w [.slice (some ⟨g, 0, none⟩) n cap] xs) : Fresh g (g + 1) w [.slice (some ⟨g, 0, none⟩) n cap] xs := by
  obtain ⟨F, ho, hn, hb⟩ := h
  have ho' := ho
  obtain ⟨v, cs, Fs, hv, hrow, rfl, hall, hz⟩ := ho
  have hf := ownAll_none _ _ _ hall
  obtain rfl : _ = v := by simpa using hv
  refine ⟨_, ho', hn, fun b hb => ?_⟩
  rw [hf] at hb
  simp [Value.ownBlock] at hb
  omega
end Go.Vc
namespace Go.Proofs.YthhmaclhggmneaaDoor
open Go.RowKit Go.Vc
open Go.Vc.Rep (rd)
open Go.Vc.Own (own)
instance : Tid Bool := ⟨4⟩
theorem slz_bool : SlZ Tryd.prog 61 Bool 1 (.bool false) := by
  obtain ⟨i, h1, h2, h3, h4⟩ := info_parts (show (Tryd.prog.info? 4).map (fun i => (i.zero, i.size, i.bytes)) = some (some (.bool false), 1, 1) by kernel_rfl)
  exact ⟨Tryd.underlying61, ⟨i, h1, h2, h3, h4⟩, fun w => ⟨rfl, rfl⟩, Nat.one_pos⟩
theorem bool_own (b : Bool) (w : World) : own [] w [.bool b] b := ⟨rfl, rfl⟩
/-- a row of marks, one of them set -/
theorem marks_start (wb : World) (n a0 : Nat) (h : a0 < n) (hn : n ≤ 1000) :
    ∃ wd, wd = wb.alloc (.cells ((madeCells #[Value.bool false] (n * Rep.sz Bool)).setIfInBounds a0 (.bool true)) (Tid.tid Bool)) ∧ (∃ u, (madeCells #[Value.bool false] (n * Rep.sz Bool))[a0]? = some u) ∧
      Fresh wb.heap.size wd.heap.size wd [.slice (some ⟨wb.heap.size, 0, none⟩) n n] ((List.replicate n false).set a0 true) ∧ Below wb.heap.size wb wd ∧ wd.heap.size = wb.heap.size + 1 := by
  have hfr := (Fresh.made (w := wb) slz_bool.hz slz_bool.pos wb.heap.size n (by unfold maxLen; omega) (Nat.le_refl _)).now
  have hzr : List.replicate n (Zr.zr : Bool) = List.replicate n false := rfl
  have hcz : (Value.bool false).cells = #[Value.bool false] := rfl
  rw [hzr, hcz] at hfr
  obtain ⟨⟨u, hu⟩, hfz, hg1, _⟩ := hfr.there1 rfl (i := a0) (by simpa using h)
  have hfr2 := hfr.set1 rfl (i := a0) (by simpa using h) (Fresh.leaf (m := (wb.alloc (.cells (madeCells #[Value.bool false] (n * Rep.sz Bool)) (Tid.tid Bool))).heap.size) (bool_own true _)) (by simp)
  rw [World.setCell_alloc_new] at hfr2
  refine ⟨_, rfl, ⟨u, ?_⟩, hfr2, (Below.refl _ _).alloc (Nat.le_refl _) _, by simp⟩
  rw [cell_of_row _ _ a0 _ _ (0, 0) (heap_alloc_new _ _)] at hu
  exact hu
end Go.Proofs.YthhmaclhggmneaaDoor
namespace Go.Vc
open Go.RowKit
open Rep (rd)
open Own (own)

/-- a literal of strings -/
theorem lit_strs {w : World} {g : Nat} {e : TypeId} (ss : List ByteArray) (h : w.heap[g]? = some (.cells (ss.map Value.string).toArray e (0, 0))) (hz : ∀ s ∈ ss, s.size ≤ maxLen) (hl : ss.length ≤ maxLen) :
    IsSlice (fun b => b = g) w (some ⟨g, 0, none⟩) ss.length ss := by
  refine ⟨Nat.le_refl _, hl, fun i hi => ⟨g, 0, [.string ss[i]], rfl, rfl, ?_, ⟨rfl, hz _ (List.getElem_mem hi)⟩, by decide⟩⟩
  intro j u hu
  have hj : j = 0 := by
    have := (List.getElem?_eq_some_iff.1 hu).1
    simpa using this
  subst hj
  simp at hu
  subst hu
  rw [cell_of_row w g _ _ e (0, 0) h]
  simp [Rep.sz, hi]
/-- a literal of ints -/
theorem lit_ints {w : World} {g : Nat} {e : TypeId} (ss : List Int) (h : w.heap[g]? = some (.cells (ss.map (Value.int .i64)).toArray e (0, 0))) (hz : ∀ s ∈ ss, I64 s) (hl : ss.length ≤ maxLen) :
    IsSlice (fun b => b = g) w (some ⟨g, 0, none⟩) ss.length ss := by
  refine ⟨Nat.le_refl _, hl, fun i hi => ⟨g, 0, [.int .i64 ss[i]], rfl, rfl, ?_, ⟨rfl, hz _ (List.getElem_mem hi)⟩, by decide⟩⟩
  intro j u hu
  have hj : j = 0 := by
    have := (List.getElem?_eq_some_iff.1 hu).1
    simpa using this
  subst hj
  simp at hu
  subst hu
  rw [cell_of_row w g _ _ e (0, 0) h]
  simp [Rep.sz, hi]
end Go.Vc
namespace Go.Proofs.YthhmaclhggmneaaDoor
open Go.RowKit Go.Vc
open Go.Vc.Rep (rd)
open Go.Vc.Own (own)

set_option maxHeartbeats 4000000 in
set_option maxRecDepth 100000 in
theorem ancestors_any {S : Nat → Prop} (v0 v1 : Value) (cs : List Commit) (at_ : Int) (w : World) (h0 : rd S w [v0] cs) (hP : parOk cs) (hn : cs.length ≤ 16) (hat : 0 ≤ at_ ∧ at_ < (cs.length : Int)) :
    Calls Tryd.prog 70 #[.agg #[v0, v1], .int .i64 at_] w fun e w' => ∃ g, e = .returned (.slice (some ⟨g, 0, none⟩) cs.length cs.length) ∧ Fresh w.heap.size w'.heap.size w' [.slice (some ⟨g, 0, none⟩) cs.length cs.length] (anc cs at_) ∧ Below w.heap.size w w' := by
  obtain ⟨a, cap, rfl, hs⟩ := rd_slice_elim (Rep.lt h0)
  obtain ⟨a0, rfl⟩ : ∃ n : Nat, at_ = (n : Int) := ⟨at_.toNat, by omega⟩
  have hat2 : a0 < cs.length := by omega
  obtain ⟨wb, hwb⟩ : ∃ wb, wb = w.alloc (.cells #[.slice a cs.length cap, v1] 30) := ⟨_, rfl⟩
  obtain ⟨hB0, hsb, hq⟩ := boxed (vs := [.slice a cs.length cap, v1]) hwb
  have q0 := hq 0 _ rfl
  have hmk := slz_bool.make cs.length (by omega) (by unfold maxLen; omega)
  obtain ⟨wd, hwd, ⟨u, hmc⟩, hfr, hBd, hsd⟩ := marks_start wb cs.length a0 hat2 (by omega)
  rw [hsb] at hfr
  have q0d := keepc q0 hBd
  have hB1 := hB0.trans (hBd.mono hB0.size)
  rw [hwb] at hwd
  have HW := Lib.hid hwd
  have HC : Hid (anc cs (a0 : Int) = ancD cs (a0 + 1) ((List.replicate cs.length false).set a0 true)) := by show _ = _; unfold anc; simp
  have hml : ((List.replicate cs.length false).set a0 true).length = cs.length := by simp
  obtain ⟨ms0, hms⟩ : ∃ ms, ms = (List.replicate cs.length false).set a0 true := ⟨_, rfl⟩
  rw [← hms] at hml hfr HC
  clear hwb hq hwd hms hsd hat
  go_enter Tryd.func70, Tryd.ntmps70
  go_wp2
  rw [← HW.out]
  clear hmk hmc HW
  go_loopw [6] (fun i wr => (∃ (k : Nat) (ms : List Bool), i = .int .i64 ((k : Int) - 1) ∧ k ≤ cs.length ∧ ms.length = cs.length ∧ Fresh (w.heap.size + 1) wr.heap.size wr [.slice (some ⟨w.heap.size + 1, 0, none⟩) cs.length cs.length] ms ∧ wr.cell? ⟨w.heap.size, 0, none⟩ = some (.slice a cs.length cap) ∧ Hid (anc cs (a0 : Int) = ancD cs k ms)) ∧ Below w.heap.size w wr) (fun i _ => (intOf i + 1).toNat)
  case atStart => exact ⟨⟨a0 + 1, ms0, by go_num, hat2, hml, hfr, q0d, HC⟩, hB1⟩
  case round =>
    clear hfr q0d HC hml hB1 hB0 hBd
    obtain ⟨⟨k, ms, rfl, hk, hml, hF, hq0, HA⟩, hb⟩ := hrel
    by_cases hk0 : k = 0
    · subst hk0
      go_wp2
      go_ret
      exact ⟨_, rfl, by rw [HA.out]; exact hF.mono (by omega) (Nat.le_refl _), hb⟩
    · obtain ⟨j, rfl⟩ : ∃ j, k = j + 1 := ⟨k - 1, by omega⟩
      have hj : j < cs.length := by omega
      have ej : (((j + 1 : Nat) : Int) - 1) = (j : Int) := by omega
      rw [ej]
      have hjm : j < ms.length := by omega
      have hcell := hF.boolAt (i := j) hjm
      cases hb0 : ms[j] with
      | false =>
        have HN := Lib.hid (anc_skip HA.out hjm hb0)
        rw [hb0] at hcell
        go_wp2
        go_roundw
        case rel => exact ⟨⟨j, ms, by go_num, by omega, hml, hF, hq0, HN.out⟩, hb⟩
        case measure => simp [intOf] <;> omega
      | true =>
        have HN := Lib.hid (anc_take HA.out hjm hj hb0)
        rw [hb0] at hcell
        clear hb0
        obtain ⟨g, off, ap, np, at_, nt, rfl, hc0, hc1, hc2, hpar, hz1, htr⟩ := hs.commit hj
        have hc0 := keepc hc0 hb
        have hpo := hP j hj
        obtain ⟨ps, hps⟩ : ∃ ps, ps = cs[j].parents := ⟨_, rfl⟩
        have hpn : ∀ m (hm : m < ps.length), ∃ p : Nat, ps[m] = (p : Int) ∧ p < cs.length := by
          intro m hm
          subst hps
          obtain ⟨p, h1, h2⟩ := par_nat hP hj hm
          exact ⟨p, h1, by omega⟩
        rw [← hps] at hc0 hpar HN
        have HPN := Lib.hid hpn
        have hlp := hpar.le
        clear hps hc1 hc2 htr hpo hpn
        go_wp2
        go_loopw [32] (fun i wq => (∃ (m : Nat) (ms' : List Bool), i = .int .i64 m ∧ m ≤ ps.length ∧ ms'.length = cs.length ∧ Fresh (w.heap.size + 1) wq.heap.size wq [.slice (some ⟨w.heap.size + 1, 0, none⟩) cs.length cs.length] ms' ∧ wq.cell? ⟨w.heap.size, 0, none⟩ = some (.slice (some ⟨g, off, none⟩) cs.length cap) ∧ Hid (onAll ms ps = onAll ms' (ps.drop m))) ∧ Below w.heap.size w wq) (fun i _ => ps.length - (intOf i).toNat)
        case atStart => exact ⟨⟨0, ms, rfl, by omega, hml, hF, hq0, rfl⟩, hb⟩
        case round =>
          clear hF hq0 hcell hc0
          obtain ⟨⟨m, ms', rfl, hm, hml', hF', hq0', HI⟩, hb'⟩ := hrel
          by_cases hlm : m < ps.length
          · obtain ⟨p, hp, hpl⟩ := HPN.out m hlm
            obtain ⟨g2, off2, rfl, hd, _⟩ := (hpar.keep hb').int (i := m) hlm
            rw [hp] at hd
            have HN2 := Lib.hid (onAll_next HI.out hlm)
            rw [hp, Int.toNat_natCast] at HN2
            obtain ⟨⟨u, hu⟩, hfz, _, _⟩ := hF'.there1 rfl (i := p) (by omega)
            have hF2 := hF'.set1 rfl (i := p) (by omega) (Fresh.leaf (m := wr.heap.size) (bool_own true wr)) (by have := World.block_lt_of_cell? wr _ hq0'; omega)
            have hq2 : (wr.setCell ⟨w.heap.size + 1, p, none⟩ (.bool true)).cell? ⟨w.heap.size, 0, none⟩ = some (.slice (some ⟨g, off, none⟩) cs.length cap) := by
              rw [World.cell?_setCell_other _ _ _ _ (by intro e; injection e with e1 _ _; omega)]; exact hq0'
            have hB2 := hb'.setCell (p := ⟨w.heap.size + 1, p, none⟩) (by show w.heap.size ≤ w.heap.size + 1; omega) (.bool true)
            clear hp
            go_wp2
            go_roundw
            case rel => exact ⟨⟨m + 1, ms'.set p true, by go_num, by omega, by simpa using hml', hF2, hq2, HN2.out⟩, hB2⟩
            case measure => simp [intOf] <;> omega
          · have HE := Lib.hid (onAll_end HI.out hlm)
            have hoa := onAll_len ps ms
            go_wp2
            go_roundw
            case rel => exact ⟨⟨j, ms', by go_num, by omega, hml', hF', hq0', by show _ = _; rw [HN.out, HE.out]⟩, hb'⟩
            case measure => simp [intOf] <;> omega
end Go.Proofs.YthhmaclhggmneaaDoor
