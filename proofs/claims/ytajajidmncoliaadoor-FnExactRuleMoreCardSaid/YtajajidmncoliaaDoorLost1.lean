/-
  Walks: the laws' own helpers on Lost: what it takes of a budget, copies, whether two are one.
-/
import Derived.Test.YtajajidmncoliaaDoorLost0
import Derived.Test.YtajajidmncoliaaDoorVD
set_option linter.unusedVariables false
namespace Go.Proofs.YtajajidmncoliaaDoor
open Go.RowKit Go.Vc
open Go.Vc.Rep (rd)
open Go.Vc.Own (own)

def bulk1_lost (d : Lost) : Nat := d.path.size + d.ref.size


set_option maxHeartbeats 1000000 in
theorem eq1_lost (d e : Lost)  (w : World)  :
    Calls Tryd.prog 95 #[.agg #[.string d.path, .int .i64 d.line, .string d.ref], .agg #[.string e.path, .int .i64 e.line, .string e.ref]] w fun r w' => r = .returned (.bool (decide (d = e))) ∧ Below w.heap.size w w' := by
  have HB := ((Below.refl w.heap.size w).alloc (Nat.le_refl _) (.cells #[.string d.path, .int .i64 d.line, .string d.ref] 104)).alloc (by simp <;> omega) (.cells #[.string e.path, .int .i64 e.line, .string e.ref] 104)
  go_enter Tryd.func95, Tryd.ntmps95
  by_cases h0 : d.path = e.path
  rotate_left
  · have H := Lib.hid (show decide (d = e) = false from decide_eq_false (by rw [eq_lost]; simp [h0]))
    have hd : decide (d.path = e.path) = false := decide_eq_false h0
    clear h0
    go_wp2
    go_ret
    exact ⟨ret_bool H.out.symm, HB⟩
  have K0 := Lib.hid h0
  have hd0 : decide (d.path = e.path) = true := decide_eq_true h0
  clear h0
  by_cases h1 : d.line = e.line
  rotate_left
  · have H := Lib.hid (show decide (d = e) = false from decide_eq_false (by rw [eq_lost]; simp [h1]))
    have hd : (d.line != e.line) = true := by simp [h1]
    clear h1
    go_wp2
    go_ret
    exact ⟨ret_bool H.out.symm, HB⟩
  have K1 := Lib.hid h1
  have hd1 : (d.line != e.line) = false := by simp [h1]
  clear h1
  by_cases h2 : d.ref = e.ref
  rotate_left
  · have H := Lib.hid (show decide (d = e) = false from decide_eq_false (by rw [eq_lost]; simp [h2]))
    have hd : decide (d.ref = e.ref) = false := decide_eq_false h2
    clear h2
    go_wp2
    go_ret
    exact ⟨ret_bool H.out.symm, HB⟩
  have K2 := Lib.hid h2
  have hd2 : decide (d.ref = e.ref) = true := decide_eq_true h2
  clear h2
  go_wp2
  go_ret
  exact ⟨ret_bool (by symm; apply decide_eq_true; rw [eq_lost]; exact ⟨K0.out, K1.out, K2.out⟩), HB⟩

abbrev bulk_L (xs : List Lost) : Nat := bulkL bulk1_lost xs


set_option maxHeartbeats 1000000 in
theorem eq_L {S T : Nat → Prop} (v u : Value) (xs ys : List Lost) (w : World) (hv : rd S w [v] xs) (hu : rd T w [u] ys) :
    Calls Tryd.prog 46 #[v, u] w fun e w' => e = .returned (.bool (decide (xs = ys))) ∧ Below w.heap.size w w' := by
  obtain ⟨a, cap, rfl, hs⟩ := rd_slice_elim (Rep.lt hv)
  obtain ⟨b, cbp, rfl, ht⟩ := rd_slice_elim (Rep.lt hu)
  have hle := hs.le
  have hle' := ht.le
  by_cases hn : xs.length = ys.length
  · have hn2 : ((xs.length : Int) != ys.length) = false := by simp [hn]
    have HN := Lib.hid hn
    clear hn
    go_enter Tryd.func46, Tryd.ntmps46
    go_wp2
    go_loopw [5] (fun i wr => (∃ k : Nat, k ≤ xs.length ∧ i = .int .i64 k ∧ Hid (decide (xs = ys) = decide (xs.drop k = ys.drop k))) ∧ Below w.heap.size w wr) (fun i _ => xs.length - (intOf i).toNat)
    case atStart => exact ⟨⟨0, by omega, rfl, rfl⟩, Below.refl _ _⟩
    case round =>
      obtain ⟨⟨k, hk, rfl, HA⟩, hb⟩ := hrel
      by_cases hlt : k < xs.length
      · have hlt' : k < ys.length := by rw [← HN.out]; exact hlt
        obtain ⟨g, off, rfl, hc0, hc1, hc2, k0, k1, k2⟩ := (hs.keep hb).lost hlt
        obtain ⟨g', off', rfl, hc0', hc1', hc2', k0', k1', k2'⟩ := (ht.keep hb).lost hlt'
        have hc0 := BW.cell hc0
        have hc0' := BW.cell hc0'
        have hc1 := BW.cell hc1
        have hc1' := BW.cell hc1'
        have hc2 := BW.cell hc2
        have hc2' := BW.cell hc2'
        by_cases he : xs[k] = ys[k]
        · have hd : decide (xs[k] = ys[k]) = true := decide_eq_true he
          have HE := Lib.hid he
          clear he
          go_wp2
          refine wp_region_bw (by kernel_rfl) (by kernel_rfl) ?_
          repeat (go_big_quiet_step ((go_at_call 95; exact Calls.bw (eq1_lost xs[k] ys[k]  _ ))))
          refine wpQuiet_nil ?_
          rintro w1 ⟨⟨_, hbw⟩, rfl⟩
          go_wp2
          go_roundw
          case rel => exact ⟨⟨k + 1, by omega, by go_num, eq_next HA.out hlt hlt' HE.out⟩, hb.trans (hbw.mono hb.size)⟩
          case measure => simp [intOf]; omega
        · have hd : decide (xs[k] = ys[k]) = false := decide_eq_false he
          have HE := Lib.hid he
          clear he
          go_wp2
          refine wp_region_bw (by kernel_rfl) (by kernel_rfl) ?_
          repeat (go_big_quiet_step ((go_at_call 95; exact Calls.bw (eq1_lost xs[k] ys[k]  _ ))))
          refine wpQuiet_nil ?_
          rintro w1 ⟨⟨_, hbw⟩, rfl⟩
          go_wp2
          go_ret
          exact ⟨ret_bool (by rw [eq_bad HA.out hlt hlt' HE.out]), hb.trans (hbw.mono hb.size)⟩
      · go_wp2
        go_ret
        exact ⟨ret_bool (by rw [eq_end HA.out hlt (by have := HN.out; omega)]), hb⟩
  · have hn2 : ((xs.length : Int) != ys.length) = true := by simp; omega
    go_enter Tryd.func46, Tryd.ntmps46
    go_wp2
    go_ret
    exact ⟨ret_bool (by symm; apply decide_eq_false; intro e; exact hn (by rw [e])), Below.refl _ _⟩
end Go.Proofs.YtajajidmncoliaaDoor
