/-
  Walks: marks of Lost.
-/
import Derived.Test.YtajajidmncoliaaDoorLost1
import Derived.Test.YtajajidmncoliaaDoorVF
set_option linter.unusedVariables false
namespace Go.Proofs.YtajajidmncoliaaDoor
open Go.RowKit Go.Vc
open Go.Vc.Rep (rd)
open Go.Vc.Own (own)

def cnt1_lost (d : Lost) : Nat := 1 + 1 + 1
def mark1_lost (k : Int) (d : Lost) : Lost := ⟨markT (k), k + 1, markT (k + 1 + 1)⟩
abbrev cnt_L (xs : List Lost) : Nat := bsum cnt1_lost xs
abbrev marks_L (k : Int) (xs : List Lost) : List Lost := marksL mark1_lost cnt1_lost k xs
theorem cnt_L_le (xs : List Lost) : cnt_L xs ≤ 4 * bulk_L xs := bsum_le (fun d => by
  have e1 : cnt1_lost d = 1 + 1 + 1 := rfl
  have e2 : bulk1_lost d = d.path.size + d.ref.size := rfl
  omega) xs
theorem marks_L_len (k : Int) (xs : List Lost) : (marks_L k xs).length = xs.length := marksL_len _ _ _ _
set_option maxHeartbeats 4000000 in
theorem mark_L {F : List Nat} (v : Value) (xs : List Lost) (k : Int) (w : World) (hv : own F w [v] xs) (hn : F.Nodup) (hk0 : 0 ≤ k) (hk1 : k + cnt_L xs ≤ 16777216) :
    Calls Tryd.prog 47 #[v, .int .i64 k] w fun e w' => e = .returned (.int .i64 (k + cnt_L xs)) ∧ Still F w w' [v] (marks_L k xs) := by
  obtain ⟨a, cap, rfl, hs⟩ := rd_slice_elim (Own.rd_of hv)
  have hle := hs.le
  have hk1 : k + bsum cnt1_lost xs ≤ 16777216 := hk1
  go_enter Tryd.func47, Tryd.ntmps47
  go_wp2
  go_loopw [1, 5] (fun m i wr => (∃ j : Nat, j ≤ xs.length ∧ i = .int .i64 j ∧ m = .int .i64 (k + bsum cnt1_lost (xs.take j))) ∧ ∃ j : Nat, i = .int .i64 j ∧ Still F w wr [.slice a xs.length cap] (over (marks_L k xs) xs j)) (fun _ i _ => xs.length - (intOf i).toNat)
  case atStart => exact ⟨⟨0, by omega, rfl, by simp [bsum]⟩, 0, rfl, Still.start hv hn⟩
  case round =>
    obtain ⟨⟨j, hj, rfl, rfl⟩, j', hj', hS⟩ := hrel
    obtain rfl : j' = j := by simp at hj'; omega
    clear hj'
    by_cases hlt : j' < xs.length
    · have hlm := marks_L_len k xs
      have hsum := bsum_take cnt1_lost xs j' hlt
      have hsl := bsum_take_le cnt1_lost xs (j' + 1)
      have hcd : cnt1_lost xs[j'] = 1 + 1 + 1 := rfl
      rw [hcd] at hsum
      have hnext := marksL_next mark1_lost cnt1_lost xs k j' hlt
      obtain ⟨kk, hkk⟩ : ∃ kk : Int, k + bsum cnt1_lost (xs.take j') = kk := ⟨_, rfl⟩
      have hkend : k + bsum cnt1_lost (xs.take (j' + 1)) = kk + 1 + 1 + 1 := by omega
      have hkk0 : 0 ≤ kk := by omega
      have hkk1 : kk + 1 + 1 + 1 ≤ 16777216 := by omega
      rw [hkk] at hnext ⊢
      have HK := Lib.hid hkend
      have HN := Lib.hid hnext
      have hx0 := over_at' _ _ _ hlm hlt
      have hi0 := (List.getElem?_eq_some_iff.1 hx0).1
      have HI := Lib.hid hi0
      have HX := Lib.hid hx0
      have hlo := over_len _ _ j' hlm (by omega)
      obtain ⟨g, rfl⟩ := hS.addr (by rw [hlo]; omega)
      have hS : Still F w wr [.slice (some ⟨g, 0, none⟩) xs.length cap] ((over (marks_L k xs) xs j').set j' xs[j']) := by
        rw [set_same hx0]; exact hS
      clear hsum hsl hcd hnext hkend hkk hx0 hi0 hlo hlm
      go_wp2_with fail
      refine (markText_any _ _ (by omega)).mono ?_
      rintro e w1 ⟨rfl, hb1⟩
      have hS := hS.below hb1
      obtain ⟨⟨u0, hu0⟩, hf0, hS2⟩ := Still.setf lens_lost_path hS (List.getElem?_set_self HI.out) (markT_own (kk))
      rw [List.set_set] at hS2
      have hu0' : (w1).cell? ⟨g, j' * 3, none⟩ = some u0 := hu0
      have hf0' : (w1).frozen? ⟨g, j' * 3, none⟩ = false := hf0
      have hS : Still F w ((w1).setCell ⟨g, j' * 3, none⟩ (.string (markT (kk)))) [.slice (some ⟨g, 0, none⟩) xs.length cap] ((over (marks_L k xs) xs j').set j' ⟨markT (kk), xs[j'].line, xs[j'].ref⟩) := hS2
      clear hu0 hf0 hS2
      obtain ⟨⟨u1, hu1⟩, hf1, hS2⟩ := Still.setf lens_lost_line hS (List.getElem?_set_self HI.out) (own_int (k := kk + 1) (by omega) (by omega))
      rw [List.set_set] at hS2
      have hu1' : ((w1).setCell ⟨g, j' * 3, none⟩ (.string (markT (kk)))).cell? ⟨g, j' * 3 + 1, none⟩ = some u1 := hu1
      have hf1' : ((w1).setCell ⟨g, j' * 3, none⟩ (.string (markT (kk)))).frozen? ⟨g, j' * 3 + 1, none⟩ = false := hf1
      have hS : Still F w (((w1).setCell ⟨g, j' * 3, none⟩ (.string (markT (kk)))).setCell ⟨g, j' * 3 + 1, none⟩ (.int .i64 (kk + 1))) [.slice (some ⟨g, 0, none⟩) xs.length cap] ((over (marks_L k xs) xs j').set j' ⟨markT (kk), (kk + 1), xs[j'].ref⟩) := hS2
      clear hu1 hf1 hS2
      go_wp2_with fail
      refine (markText_any _ _ (by omega)).mono ?_
      rintro e w2 ⟨rfl, hb2⟩
      have hS := hS.below hb2
      obtain ⟨⟨u2, hu2⟩, hf2, hS2⟩ := Still.setf lens_lost_to hS (List.getElem?_set_self HI.out) (markT_own (kk + 1 + 1))
      rw [List.set_set] at hS2
      have hu2' : (w2).cell? ⟨g, j' * 3 + 2, none⟩ = some u2 := hu2
      have hf2' : (w2).frozen? ⟨g, j' * 3 + 2, none⟩ = false := hf2
      have hS : Still F w ((w2).setCell ⟨g, j' * 3 + 2, none⟩ (.string (markT (kk + 1 + 1)))) [.slice (some ⟨g, 0, none⟩) xs.length cap] ((over (marks_L k xs) xs j').set j' ⟨markT (kk), (kk + 1), markT (kk + 1 + 1)⟩) := hS2
      clear hu2 hf2 hS2
      have HS' := Lib.hid (show Still F w ((w2).setCell ⟨g, j' * 3 + 2, none⟩ (.string (markT (kk + 1 + 1)))) [.slice (some ⟨g, 0, none⟩) xs.length cap] (over (marks_L k xs) xs (j' + 1)) by rw [← HN.out]; exact hS)
      clear hS
      go_wp2
      go_roundw
      case rel => exact ⟨⟨j' + 1, by omega, by go_num, by rw [HK.out] <;> go_num⟩, j' + 1, by go_num, HS'.out⟩
      case measure => simp [intOf]; omega
    · go_wp2
      go_ret
      exact ⟨ret_int (by rw [List.take_of_length_le (by omega)]), by rw [over_all _ _ _ (marks_L_len k xs) hlt] at hS; exact hS⟩

theorem held_at_lost {S : Nat → Prop} {w : World} {a : Option Addr} {cap : Nat} {ys : List Lost} (hs : IsSlice S w a cap ys) {d : Lost} {j : Nat} {k0 kk : Int} (hj : ys[j]? = some (mark1_lost k0 d)) (hk : k0 = kk) :
    ∃ g off, a = some ⟨g, off, none⟩ ∧ w.cell? ⟨g, off + j * 3, none⟩ = some (.string (markT (kk))) ∧ w.cell? ⟨g, off + j * 3 + 1, none⟩ = some (.int .i64 (kk + 1)) ∧ w.cell? ⟨g, off + j * 3 + 2, none⟩ = some (.string (markT (kk + 1 + 1))) := by
  subst hk
  obtain ⟨hj, he⟩ := List.getElem?_eq_some_iff.1 hj
  obtain ⟨g, off, rfl, hc0, hc1, hc2, k0, k1, k2⟩ := hs.lost hj
  rw [he] at hc0 k0 hc1 k1 hc2 k2
  exact ⟨g, off, rfl, hc0, hc1, hc2⟩
set_option maxHeartbeats 4000000 in
theorem held_L {S : Nat → Prop} (v : Value) (xs : List Lost) (k : Int) (w : World) (hv : rd S w [v] (marks_L k xs)) (hk0 : 0 ≤ k) (hk1 : k + cnt_L xs ≤ 16777216) :
    Calls Tryd.prog 48 #[v, .int .i64 k] w fun e w' => e = .returned (.int .i64 (k + cnt_L xs)) ∧ Below w.heap.size w w' := by
  obtain ⟨a, cap, rfl, hs⟩ := rd_slice_elim (Rep.lt hv)
  have hlm := marks_L_len k xs
  have hle := hs.le
  rw [hlm] at hle ⊢
  have hk1 : k + bsum cnt1_lost xs ≤ 16777216 := hk1
  go_enter Tryd.func48, Tryd.ntmps48
  go_wp2
  go_loopw [1, 5] (fun m i wr => (∃ j : Nat, j ≤ xs.length ∧ i = .int .i64 j ∧ m = .int .i64 (k + bsum cnt1_lost (xs.take j))) ∧ Below w.heap.size w wr) (fun _ i _ => xs.length - (intOf i).toNat)
  case atStart => exact ⟨⟨0, by omega, rfl, by simp [bsum]⟩, Below.refl _ _⟩
  case round =>
    obtain ⟨⟨j, hj, rfl, rfl⟩, hb⟩ := hrel
    by_cases hlt : j < xs.length
    · have hat := marksL_at mark1_lost cnt1_lost xs k j hlt (by rw [hlm]; exact hlt)
      have hat' := List.getElem?_eq_getElem (show j < (marks_L k xs).length by rw [hlm]; exact hlt)
      rw [hat] at hat'
      have hsum := bsum_take cnt1_lost xs j hlt
      have hsl := bsum_take_le cnt1_lost xs (j + 1)
      have hcd : cnt1_lost xs[j] = 1 + 1 + 1 := rfl
      rw [hcd] at hsum
      obtain ⟨kk, hkk⟩ : ∃ kk : Int, k + bsum cnt1_lost (xs.take j) = kk := ⟨_, rfl⟩
      have hkend : k + bsum cnt1_lost (xs.take (j + 1)) = kk + 1 + 1 + 1 := by omega
      have hkk0 : 0 ≤ kk := by omega
      have hkk1 : kk + 1 + 1 + 1 ≤ 16777216 := by omega
      obtain ⟨g, off, rfl, hc0, hc1, hc2⟩ := held_at_lost (hs.keep hb) hat' (kk := kk) (by rw [hkk])
      rw [hkk]
      have HK := Lib.hid hkend
      clear hsum hsl hcd hkend hkk hat hat'
      have hq0 := BW.cell hc0
      have he : decide (markT (kk) = markT (kk)) = true := by simp
      go_wp2
      refine wp_region_bw (by kernel_rfl) (by kernel_rfl) ?_
      repeat (go_big_quiet_step ((go_at_call 89; exact Calls.bw (markText_any _ _ (by omega)))))
      refine wpQuiet_nil ?_
      rintro w1 ⟨⟨_, hbw⟩, rfl⟩
      have hb1 := hbw
      clear hbw hq0 he
      obtain ⟨wo1, hwo1⟩ : ∃ wo, wo = w1 := ⟨_, rfl⟩
      subst hwo1
      have hc1 := keepc hc1 hb1
      have hc2 := keepc hc2 hb1
      have hb := hb.trans (hb1.mono hb.size)
      have hq2 := BW.cell hc2
      have he : decide (markT (kk + 1 + 1) = markT (kk + 1 + 1)) = true := by simp
      go_wp2
      refine wp_region_bw (by kernel_rfl) (by kernel_rfl) ?_
      repeat (go_big_quiet_step ((go_at_call 89; exact Calls.bw (markText_any _ _ (by omega)))))
      refine wpQuiet_nil ?_
      rintro w1 ⟨⟨_, hbw⟩, rfl⟩
      have hb2 := hbw
      clear hbw hq2 he
      obtain ⟨wo2, hwo2⟩ : ∃ wo, wo = w1 := ⟨_, rfl⟩
      subst hwo2
      have hb := hb.trans (hb2.mono hb.size)
      go_wp2
      go_roundw
      case rel => exact ⟨⟨j + 1, by omega, by go_num, by rw [HK.out] <;> go_num⟩, hb⟩
      case measure => simp [intOf]; omega
    · go_wp2
      go_ret
      exact ⟨ret_int (by rw [List.take_of_length_le (by omega)]), hb⟩
end Go.Proofs.YtajajidmncoliaaDoor
