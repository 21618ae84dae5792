/-
  Walks: runs of lines.
-/
import Derived.Test.YtjfhbepnomnalaaW4
import Derived.Test.YtjfhbepnomnalaaOwn3
import Derived.Test.YtjfhbepnomnalaaPlain3
namespace Go.Proofs.Ytjfhbepnomnalaa
open Go.RowKit Go.Vc
open Go.Vc.Rep (rd)
open Go.Vc.Own (own)

set_option maxHeartbeats 1000000 in
theorem prefix_any {S T : Nat → Prop} (v u : Value) (xs ys : List ByteArray) (w : World) (hv : rd S w [v] xs) (hu : rd T w [u] ys) :
    Calls Try.prog 88 #[v, u] w fun e w' => e = .returned (.int .i64 (pfx xs ys)) ∧ Below w.heap.size w w' := by
  obtain ⟨a, cap, rfl, hs⟩ := rd_slice_elim (Rep.lt hv)
  obtain ⟨b, cbp, rfl, ht⟩ := rd_slice_elim (Rep.lt hu)
  have hle := hs.le
  have hle' := ht.le
  go_enter Try.func88, Try.ntmps88
  go_wp2
  go_loopw [5] (fun i wr => (∃ k : Nat, k ≤ xs.length ∧ k ≤ ys.length ∧ i = .int .i64 k ∧ Hid (pfx xs ys = k + pfx (xs.drop k) (ys.drop k))) ∧ Below w.heap.size w wr) (fun i _ => xs.length - (intOf i).toNat)
  case atStart => exact ⟨⟨0, by omega, by omega, rfl, by show _ = _; simp⟩, Below.refl _ _⟩
  case round =>
    obtain ⟨⟨k, hk, hk', rfl, HA⟩, hb⟩ := hrel
    by_cases hlt : k < xs.length
    · by_cases hlt' : k < ys.length
      · have hd1 : decide (k < xs.length) = true := decide_eq_true hlt
        have hd2 : decide (k < ys.length) = true := decide_eq_true hlt'
        obtain ⟨g, off, rfl, hc, _⟩ := (hs.keep hb).str hlt
        obtain ⟨g', off', rfl, hc', _⟩ := (ht.keep hb).str hlt'
        have hc := BW.cell hc
        have hc' := BW.cell hc'
        by_cases he : xs[k] = ys[k]
        · have he2 : decide (xs[k] = ys[k]) = true := decide_eq_true he
          have HE := Lib.hid he
          clear he
          go_wp2
          refine wp_region_bw (by kernel_rfl) (by kernel_rfl) ?_
          repeat (go_big_quiet_step (fail))
          refine wpQuiet_nil ?_
          rintro w1 ⟨⟨_, hbw⟩, rfl⟩
          go_wp2
          go_roundw
          case rel => exact ⟨⟨k + 1, by omega, by omega, by go_num, pfx_next HA.out hlt hlt' HE.out⟩, hb.trans (hbw.mono hb.size)⟩
          case measure => simp [intOf]; omega
        · have he2 : decide (xs[k] = ys[k]) = false := decide_eq_false he
          have HE := Lib.hid he
          clear he
          go_wp2
          refine wp_region_bw (by kernel_rfl) (by kernel_rfl) ?_
          repeat (go_big_quiet_step (fail))
          refine wpQuiet_nil ?_
          rintro w1 ⟨⟨_, hbw⟩, rfl⟩
          go_wp2
          go_ret
          exact ⟨ret_int (by rw [pfx_bad HA.out hlt hlt' HE.out]), hb.trans (hbw.mono hb.size)⟩
      · have hd1 : decide (k < xs.length) = true := decide_eq_true hlt
        have hd2 : decide (k < ys.length) = false := decide_eq_false hlt'
        go_wp2
        refine wp_region_bw (by kernel_rfl) (by kernel_rfl) ?_
        repeat (go_big_quiet_step (fail))
        refine wpQuiet_nil ?_
        rintro w1 ⟨⟨_, hbw⟩, rfl⟩
        go_wp2
        go_ret
        exact ⟨ret_int (by rw [pfx_endB HA.out hlt']), hb.trans (hbw.mono hb.size)⟩
    · have hd1 : decide (k < xs.length) = false := decide_eq_false hlt
      go_wp2
      refine wp_region_bw (by kernel_rfl) (by kernel_rfl) ?_
      repeat (go_big_quiet_step (fail))
      refine wpQuiet_nil ?_
      rintro w1 ⟨⟨_, hbw⟩, rfl⟩
      go_wp2
      go_ret
      exact ⟨ret_int (by rw [pfx_endA HA.out hlt]), hb.trans (hbw.mono hb.size)⟩

set_option maxHeartbeats 2000000 in
theorem l13Run_any {S T : Nat → Prop} (v u : Value) (xs ys : List ByteArray) (w : World) (hv : rd S w [v] xs) (hu : rd T w [u] ys) (hx : xs.length ≤ 1048576) (hy : ys.length ≤ 1048576) :
    Calls Try.prog 87 #[v, u] w fun e w' => e = .returned (.tuple #[.int .i64 (bestOf xs ys).1, .int .i64 (bestOf xs ys).2]) ∧ Below w.heap.size w w' := by
  obtain ⟨a, cap, rfl, hs⟩ := rd_slice_elim (Rep.lt hv)
  obtain ⟨b, cbp, rfl, ht⟩ := rd_slice_elim (Rep.lt hu)
  go_enter Try.func87, Try.ntmps87
  go_wp2
  go_loopw [6, 7, 8] (fun f m i wr => (∃ (k : Nat) (c : Nat × Nat), k ≤ xs.length ∧ c.1 ≤ xs.length ∧ c.2 ≤ ys.length ∧ i = .int .i64 k ∧ f = .int .i64 c.1 ∧ m = .int .i64 c.2 ∧ Hid (bestOf xs ys = bestF ys (xs.drop k) k c)) ∧ Below w.heap.size w wr) (fun _ _ i _ => xs.length - (intOf i).toNat)
  case atStart => exact ⟨⟨0, (0, 0), by omega, by simp, by simp, rfl, rfl, rfl, rfl⟩, Below.refl _ _⟩
  case round =>
    obtain ⟨⟨k, c, hk, hc1, hc2, rfl, rfl, rfl, HA⟩, hb⟩ := hrel
    obtain ⟨wo, rfl⟩ : ∃ wo : World, wo = wr := ⟨_, rfl⟩
    by_cases hlt : k < xs.length
    · go_wp2
      go_loopw [9] (fun n wr => (∃ j : Nat, k + j ≤ xs.length ∧ j ≤ ys.length ∧ n = .int .i64 j ∧ Hid (pfx (xs.drop k) ys = j + pfx (xs.drop (k + j)) (ys.drop j))) ∧ Below w.heap.size w wr) (fun n _ => xs.length - (intOf n).toNat)
      case atStart => exact ⟨⟨0, by omega, by omega, rfl, by show _ = _; simp⟩, hb⟩
      case round =>
        obtain ⟨⟨j, hj, hj', rfl, HB⟩, hb⟩ := hrel
        by_cases h1 : k + j < xs.length
        · by_cases h2 : j < ys.length
          · have hd1 : decide ((k : Int) + j < xs.length) = true := decide_eq_true (by omega)
            have hd2 : decide (j < ys.length) = true := decide_eq_true h2
            obtain ⟨g, off, rfl, hc, _⟩ := (hs.keep hb).str h1
            obtain ⟨g', off', rfl, hc', _⟩ := (ht.keep hb).str h2
            have hc := BW.cell hc
            have hc' := BW.cell hc'
            have e1 : IntKind.i64.wrap ((k : Int) + j) = (k : Int) + j := IntWalk.i64_in _ (by omega)
            have e2 : ((k : Int) + j).toNat = k + j := by omega
            have e3 : (0 : Int) ≤ (k : Int) + j := by omega
            by_cases he : xs[k + j] = ys[j]
            · have he2 : decide (xs[k + j] = ys[j]) = true := decide_eq_true he
              have HE := Lib.hid he
              clear he
              go_wp2
              refine wp_region_bw (by kernel_rfl) (by kernel_rfl) ?_
              repeat (go_big_quiet_step (fail))
              refine wpQuiet_nil ?_
              rintro w1 ⟨⟨_, hbw⟩, rfl⟩
              clear e1 e2
              go_wp2
              go_roundw
              case rel => exact ⟨⟨j + 1, by omega, by omega, by go_num, pfx_next2 HB.out h1 h2 HE.out⟩, hb.trans (hbw.mono hb.size)⟩
              case measure => simp [intOf]; omega
            · have he2 : decide (xs[k + j] = ys[j]) = false := decide_eq_false he
              have HE := Lib.hid he
              clear he
              go_wp2
              refine wp_region_bw (by kernel_rfl) (by kernel_rfl) ?_
              repeat (go_big_quiet_step (fail))
              refine wpQuiet_nil ?_
              rintro w1 ⟨⟨_, hbw⟩, rfl⟩
              have hb := hb.trans (hbw.mono hb.size)
              clear hbw e1 e2
              have HN := Lib.hid (pfx_bad2 HB.out h1 h2 HE.out)
              by_cases hgt : c.2 < j
              · go_wp2
                go_roundw
                case rel => exact ⟨⟨k + 1, (k, j), by omega, by simp; omega, by simp; omega, by go_num, rfl, rfl, by have := bestF_next HA.out hlt; rw [HN.out, if_pos hgt] at this; exact this⟩, hb⟩
                case measure => simp [intOf]; omega
              · go_wp2
                go_roundw
                case rel => exact ⟨⟨k + 1, c, by omega, hc1, hc2, by go_num, rfl, rfl, by have := bestF_next HA.out hlt; rw [HN.out, if_neg hgt] at this; exact this⟩, hb⟩
                case measure => simp [intOf]; omega
          · have hd1 : decide ((k : Int) + j < xs.length) = true := decide_eq_true (by omega)
            have hd2 : decide (j < ys.length) = false := decide_eq_false h2
            have e1 : IntKind.i64.wrap ((k : Int) + j) = (k : Int) + j := IntWalk.i64_in _ (by omega)
            go_wp2
            refine wp_region_bw (by kernel_rfl) (by kernel_rfl) ?_
            repeat (go_big_quiet_step (fail))
            refine wpQuiet_nil ?_
            rintro w1 ⟨⟨_, hbw⟩, rfl⟩
            have hb := hb.trans (hbw.mono hb.size)
            clear hbw e1
            have HN := Lib.hid (pfx_endB2 HB.out h2)
            by_cases hgt : c.2 < j
            · go_wp2
              go_roundw
              case rel => exact ⟨⟨k + 1, (k, j), by omega, by simp; omega, by simp; omega, by go_num, rfl, rfl, by have := bestF_next HA.out hlt; rw [HN.out, if_pos hgt] at this; exact this⟩, hb⟩
              case measure => simp [intOf]; omega
            · go_wp2
              go_roundw
              case rel => exact ⟨⟨k + 1, c, by omega, hc1, hc2, by go_num, rfl, rfl, by have := bestF_next HA.out hlt; rw [HN.out, if_neg hgt] at this; exact this⟩, hb⟩
              case measure => simp [intOf]; omega
        · have hd1 : decide ((k : Int) + j < xs.length) = false := decide_eq_false (by omega)
          have e1 : IntKind.i64.wrap ((k : Int) + j) = (k : Int) + j := IntWalk.i64_in _ (by omega)
          go_wp2
          refine wp_region_bw (by kernel_rfl) (by kernel_rfl) ?_
          repeat (go_big_quiet_step (fail))
          refine wpQuiet_nil ?_
          rintro w1 ⟨⟨_, hbw⟩, rfl⟩
          have hb := hb.trans (hbw.mono hb.size)
          clear hbw e1
          have HN := Lib.hid (pfx_endA2 HB.out h1)
          by_cases hgt : c.2 < j
          · go_wp2
            go_roundw
            case rel => exact ⟨⟨k + 1, (k, j), by omega, by simp; omega, by simp; omega, by go_num, rfl, rfl, by have := bestF_next HA.out hlt; rw [HN.out, if_pos hgt] at this; exact this⟩, hb⟩
            case measure => simp [intOf]; omega
          · go_wp2
            go_roundw
            case rel => exact ⟨⟨k + 1, c, by omega, hc1, hc2, by go_num, rfl, rfl, by have := bestF_next HA.out hlt; rw [HN.out, if_neg hgt] at this; exact this⟩, hb⟩
            case measure => simp [intOf]; omega
    · go_wp2
      go_ret2
      exact ⟨by rw [bestF_end HA.out hlt]; rfl, hb⟩
end Go.Proofs.Ytjfhbepnomnalaa