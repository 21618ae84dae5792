/-
  Walks: whether two trees are one.
-/
import Derived.Test.YtmblockojnaffaaDoorWEq
import Derived.Test.YtmblockojnaffaaDoorPlPath
import Derived.Test.YtmblockojnaffaaDoorWAnc2
set_option linter.unusedVariables false
namespace Go.Proofs.YtmblockojnaffaaDoor
open Go.RowKit Go.Vc
open Go.Vc.Rep (rd)
open Go.Vc.Own (own)
theorem file_dec (f g : File) : decide (f = g) = (decide (f.path = g.path) && decide (f.text = g.text)) := by
  rw [← Bool.decide_and, decide_eq_decide]
  exact eq_file f g

set_option maxHeartbeats 1000000 in
theorem sameTree1_is {S T : Nat → Prop} (f g : File) (v u : Value) (w : World) (hv : rd S w [v] f.text) (hu : rd T w [u] g.text) {b : Bool} (h : decide (f = g) = b) :
    Calls Tryd.prog 137 #[.agg #[.string f.path, v], .agg #[.string g.path, u]] w fun e w' => e = .returned (.bool b) ∧ Below w.heap.size w w' := by
  obtain ⟨a1, c1, rfl, hs⟩ := rd_slice_elim (Rep.lt hv)
  obtain ⟨a2, c2, rfl, ht⟩ := rd_slice_elim (Rep.lt hu)
  have hB0 : Below w.heap.size w ((w.alloc (.cells #[.string f.path, .slice a1 f.text.length c1] 79)).alloc (.cells #[.string g.path, .slice a2 g.text.length c2] 79)) := (((Below.refl _ _).alloc (by simp <;> omega) _).alloc (by simp <;> omega) _)
  have HD := Lib.hid (h.symm.trans (file_dec f g))
  clear h
  cases hd : decide (f.path = g.path) with
  | false =>
    rw [hd] at HD
    go_enter Tryd.func137, Tryd.ntmps137
    go_wp2
    go_ret
    exact ⟨ret_bool HD.out.symm, hB0⟩
  | true =>
    rw [hd, Bool.true_and] at HD
    have HE := HD.out
    go_enter Tryd.func137, Tryd.ntmps137
    go_wp2_with fail
    refine (slicesEqual_is _ _ _ _ _ (hs.keep hB0).rd (ht.keep hB0).rd HE.symm).mono ?_
    rintro e w3 ⟨rfl, n, rfl⟩
    go_wp2
    go_ret
    exact ⟨ret_bool HE.symm, below_drewN hB0 n⟩

set_option maxHeartbeats 4000000 in
set_option maxRecDepth 100000 in
theorem equalFiles_any {S T : Nat → Prop} (v u : Value) (xs ys : List File) (w : World) (hv : rd S w [v] xs) (hu : rd T w [u] ys) :
    Calls Tryd.prog 136 #[v, u, .func (.func 137) #[] #[]] w fun e w' => e = .returned (.bool (decide (xs = ys))) ∧ Below w.heap.size w w' := by
  obtain ⟨a, cap, rfl, hs⟩ := rd_slice_elim (Rep.lt hv)
  obtain ⟨b, cbp, rfl, ht⟩ := rd_slice_elim (Rep.lt hu)
  have hle := hs.le
  have hle' := ht.le
  by_cases hn : xs.length = ys.length
  · have hn2 : ((xs.length : Int) != ys.length) = false := by simp [hn]
    have HN := Lib.hid hn
    clear hn
    go_enter Tryd.func136, Tryd.ntmps136
    go_wp2
    go_loopw [17] (fun i wr => (∃ k : Nat, k ≤ xs.length ∧ i = .int .i64 k ∧ Hid (decide (xs = ys) = decide (xs.drop k = ys.drop k))) ∧ Below w.heap.size w wr) (fun i _ => xs.length - (intOf i).toNat)
    case atStart => exact ⟨⟨0, by omega, rfl, rfl⟩, Below.refl _ _⟩
    case round =>
      obtain ⟨⟨k, hk, rfl, HA⟩, hb⟩ := hrel
      have hsz := hb.size
      by_cases hlt : k < xs.length
      · have hlt' : k < ys.length := by rw [← HN.out]; exact hlt
        obtain ⟨g, off, a1, c1, rfl, hc1, hc2, hz1, hft⟩ := (hs.keep hb).file hlt
        obtain ⟨g', off', a1', c1', rfl, hc1', hc2', hz1', hft'⟩ := (ht.keep hb).file hlt'
        obtain ⟨f, hf⟩ : ∃ f, f = xs[k] := ⟨_, rfl⟩
        obtain ⟨h, hh⟩ : ∃ h, h = ys[k] := ⟨_, rfl⟩
        rw [← hf] at hc1 hc2 hz1 hft
        rw [← hh] at hc1' hc2' hz1' hft'
        have HF := Lib.hid hf
        have HH := Lib.hid hh
        clear hf hh
        obtain ⟨wb, hwb⟩ : ∃ wb, wb = wr.alloc (.cells #[.string f.path, .slice a1 f.text.length c1] 79) := ⟨_, rfl⟩
        obtain ⟨hB1, hsb, hq⟩ := boxed (vs := [.string f.path, .slice a1 f.text.length c1]) hwb
        have p0 := hq 0 _ rfl
        have p1 := hq 1 _ rfl
        obtain ⟨wc, hwc⟩ : ∃ wc, wc = wb.alloc (.cells #[.string h.path, .slice a1' h.text.length c1'] 79) := ⟨_, rfl⟩
        obtain ⟨hB2, hsc, hq2⟩ := boxed (vs := [.string h.path, .slice a1' h.text.length c1']) hwc
        have r0 := hq2 0 _ rfl
        have r1 := hq2 1 _ rfl
        rw [hsb] at r0 r1
        have p0 := keepc p0 hB2
        have p1 := keepc p1 hB2
        have hc1' := keepc hc1' hB1
        have hc2' := keepc hc2' hB1
        have hB3 := hB1.trans (hB2.mono hB1.size)
        have hb3 := hb.trans (hB3.mono hsz)
        have hft := hft.keep (hB3.mono hsz)
        have hft' := hft'.keep (hB3.mono hsz)
        clear hq hq2
        subst hwc hwb
        cases hd : decide (f = h) with
        | true =>
          have HE := Lib.hid (eq_next HA.out hlt hlt' (by rw [← HF.out, ← HH.out]; exact of_decide_eq_true hd))
          go_wp2_with fail
          refine (sameTree1_is f h _ _ _ (hft.rd) (hft'.rd) hd).mono ?_
          rintro e w3 ⟨rfl, hb4⟩
          go_wp2
          go_roundw
          case rel => exact ⟨⟨k + 1, by omega, by go_num, HE.out⟩, hb3.trans (hb4.mono hb3.size)⟩
          case measure => simp [intOf]; omega
        | false =>
          have HE := Lib.hid (eq_bad HA.out hlt hlt' (by rw [← HF.out, ← HH.out]; exact of_decide_eq_false hd))
          go_wp2_with fail
          refine (sameTree1_is f h _ _ _ (hft.rd) (hft'.rd) hd).mono ?_
          rintro e w3 ⟨rfl, hb4⟩
          go_wp2
          go_ret
          exact ⟨ret_bool HE.out.symm, hb3.trans (hb4.mono hb3.size)⟩
      · have HE := Lib.hid (eq_end HA.out hlt (by have := HN.out; omega))
        go_wp2
        go_ret
        exact ⟨ret_bool HE.out.symm, hb⟩
  · have hn2 : ((xs.length : Int) != ys.length) = true := by simp; omega
    have HE := Lib.hid (show decide (xs = ys) = false from decide_eq_false fun e => hn (by rw [e]))
    go_enter Tryd.func136, Tryd.ntmps136
    go_wp2
    go_ret
    exact ⟨ret_bool HE.out.symm, Below.refl _ _⟩

set_option maxHeartbeats 1000000 in
theorem sameTree_is {S T : Nat → Prop} (v u : Value) (xs ys : List File) (w : World) (hv : rd S w [v] xs) (hu : rd T w [u] ys) {b : Bool} (h : decide (xs = ys) = b) :
    Calls Tryd.prog 120 #[v, u] w fun e w' => e = .returned (.bool b) ∧ Below w.heap.size w w' := by
  subst h
  go_enter Tryd.func120, Tryd.ntmps120
  go_wp2_with fail
  refine (equalFiles_any v u xs ys _ hv hu).mono ?_
  rintro e w3 ⟨rfl, hb⟩
  go_wp2
  go_ret
  exact ⟨rfl, hb⟩

set_option maxHeartbeats 4000000 in
set_option maxRecDepth 100000 in
theorem l12Same_any {S T : Nat → Prop} (v u : Value) (xs ys : List File) (w : World) (hv : rd S w [v] xs) (hu : rd T w [u] ys) :
    Calls Tryd.prog 118 #[v, u] w fun e w' => e = .returned (.bool (decide (xs = ys))) ∧ Below w.heap.size w w' := by
  obtain ⟨a, cap, rfl, hs⟩ := rd_slice_elim (Rep.lt hv)
  obtain ⟨b, cbp, rfl, ht⟩ := rd_slice_elim (Rep.lt hu)
  have hle := hs.le
  have hle' := ht.le
  by_cases hn : xs.length = ys.length
  · have hn2 : ((xs.length : Int) != ys.length) = false := by simp [hn]
    have HN := Lib.hid hn
    clear hn
    go_enter Tryd.func118, Tryd.ntmps118
    go_wp2
    go_loopw [5] (fun i wr => (∃ k : Nat, k ≤ xs.length ∧ i = .int .i64 k ∧ Hid (decide (xs = ys) = decide (xs.drop k = ys.drop k))) ∧ Below w.heap.size w wr) (fun i _ => xs.length - (intOf i).toNat)
    case atStart => exact ⟨⟨0, by omega, rfl, rfl⟩, Below.refl _ _⟩
    case round =>
      obtain ⟨⟨k, hk, rfl, HA⟩, hb⟩ := hrel
      have hsz := hb.size
      by_cases hlt : k < xs.length
      · have hlt' : k < ys.length := by rw [← HN.out]; exact hlt
        obtain ⟨g, off, a1, c1, rfl, hc1, hc2, hz1, hft⟩ := (hs.keep hb).file hlt
        obtain ⟨g', off', a1', c1', rfl, hc1', hc2', hz1', hft'⟩ := (ht.keep hb).file hlt'
        obtain ⟨f, hf⟩ : ∃ f, f = xs[k] := ⟨_, rfl⟩
        obtain ⟨h, hh⟩ : ∃ h, h = ys[k] := ⟨_, rfl⟩
        rw [← hf] at hc1 hc2 hz1 hft
        rw [← hh] at hc1' hc2' hz1' hft'
        have HF := Lib.hid hf
        have HH := Lib.hid hh
        have r1 := BW.cell hc1
        have r2 := BW.cell hc2
        have r3 := BW.cell hc1'
        have r4 := BW.cell hc2'
        have hft := hft.lt
        have hft' := hft'.lt
        have HD := Lib.hid (file_dec f h)
        clear hf hh
        cases hd : decide (f.path = h.path) with
        | false =>
          rw [hd] at HD
          have hdn : (!decide (f.path = h.path)) = true := by rw [hd]; rfl
          have HE := Lib.hid (eq_bad HA.out hlt hlt' (by rw [← HF.out, ← HH.out]; exact of_decide_eq_false (HD.out.trans (by rfl))))
          go_wp2
          refine wp_region_bw (by kernel_rfl) (by kernel_rfl) ?_
          repeat (go_big_quiet_step (fail))
          refine wpQuiet_nil ?_
          rintro w1 ⟨⟨_, hbw⟩, rfl⟩
          go_wp2
          go_ret
          exact ⟨ret_bool HE.out.symm, hb.trans (hbw.mono hsz)⟩
        | true =>
          rw [hd, Bool.true_and] at HD
          have hdn : (!decide (f.path = h.path)) = false := by rw [hd]; rfl
          cases ht2 : decide (f.text = h.text) with
          | false =>
            have HE := Lib.hid (eq_bad HA.out hlt hlt' (by rw [← HF.out, ← HH.out]; exact of_decide_eq_false (HD.out.trans ht2)))
            go_wp2
            refine wp_region_bw (by kernel_rfl) (by kernel_rfl) ?_
            repeat (go_big_quiet_step ((go_at_call 71; exact Calls.bw_drew (l1Same_is _ _ _ _ _ (hft.bw _).rd (hft'.bw _).rd ht2))))
            refine wpQuiet_nil ?_
            rintro w1 ⟨⟨_, hbw⟩, rfl⟩
            go_wp2
            go_ret
            exact ⟨ret_bool HE.out.symm, hb.trans (hbw.mono hsz)⟩
          | true =>
            have HE := Lib.hid (eq_next HA.out hlt hlt' (by rw [← HF.out, ← HH.out]; exact of_decide_eq_true (HD.out.trans ht2)))
            go_wp2
            refine wp_region_bw (by kernel_rfl) (by kernel_rfl) ?_
            repeat (go_big_quiet_step ((go_at_call 71; exact Calls.bw_drew (l1Same_is _ _ _ _ _ (hft.bw _).rd (hft'.bw _).rd ht2))))
            refine wpQuiet_nil ?_
            rintro w1 ⟨⟨_, hbw⟩, rfl⟩
            go_wp2
            go_roundw
            case rel => exact ⟨⟨k + 1, by omega, by go_num, HE.out⟩, hb.trans (hbw.mono hsz)⟩
            case measure => simp [intOf]; omega
      · have HE := Lib.hid (eq_end HA.out hlt (by have := HN.out; omega))
        go_wp2
        go_ret
        exact ⟨ret_bool HE.out.symm, hb⟩
  · have hn2 : ((xs.length : Int) != ys.length) = true := by simp; omega
    have HE := Lib.hid (show decide (xs = ys) = false from decide_eq_false fun e => hn (by rw [e]))
    go_enter Tryd.func118, Tryd.ntmps118
    go_wp2
    go_ret
    exact ⟨ret_bool HE.out.symm, Below.refl _ _⟩
theorem l12Same_is {S T : Nat → Prop} (v u : Value) (xs ys : List File) (w : World) (hv : rd S w [v] xs) (hu : rd T w [u] ys) {b : Bool} (h : decide (xs = ys) = b) :
    Calls Tryd.prog 118 #[v, u] w fun e w' => e = .returned (.bool b) ∧ Below w.heap.size w w' := by rw [← h]; exact l12Same_any v u xs ys w hv hu
end Go.Proofs.YtmblockojnaffaaDoor
