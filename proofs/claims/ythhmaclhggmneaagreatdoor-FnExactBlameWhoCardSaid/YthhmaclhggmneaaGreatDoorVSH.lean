/-
  Walks: the laws' own helpers on Share: what it takes of a budget, copies, whether two are one. / Walks: marks of Share.
-/
import Derived.Test.YthhmaclhggmneaaGreatDoorShare0
import Derived.Test.YthhmaclhggmneaaGreatDoorVD
import Derived.Test.YthhmaclhggmneaaGreatDoorVF
set_option linter.unusedVariables false
namespace Go.Proofs.YthhmaclhggmneaaGreatDoor
open Go.RowKit Go.Vc
open Go.Vc.Rep (rd)
open Go.Vc.Own (own)

def bulk1_share (d : Share) : Nat := d.who.size
set_option maxHeartbeats 1000000 in
theorem eq1_share (d e : Share)  (w : World)  :
    Calls Tryz.prog 21 #[.agg #[.string d.who, .int .i64 d.many], .agg #[.string e.who, .int .i64 e.many]] w fun r w' => r = .returned (.bool (decide (d = e))) ∧ Below w.heap.size w w' := by
  have HB := ((Below.refl w.heap.size w).alloc (Nat.le_refl _) (.cells #[.string d.who, .int .i64 d.many] 47)).alloc (by simp <;> omega) (.cells #[.string e.who, .int .i64 e.many] 47)
  go_enter Tryz.func21, Tryz.ntmps21
  by_cases h0 : d.who = e.who
  rotate_left
  · have H := Lib.hid (show decide (d = e) = false from decide_eq_false (by rw [eq_share]; simp [h0]))
    have hd : decide (d.who = e.who) = false := decide_eq_false h0
    clear h0
    go_wp2
    go_ret
    exact ⟨ret_bool H.out.symm, HB⟩
  have K0 := Lib.hid h0
  have hd0 : decide (d.who = e.who) = true := decide_eq_true h0
  clear h0
  by_cases h1 : d.many = e.many
  rotate_left
  · have H := Lib.hid (show decide (d = e) = false from decide_eq_false (by rw [eq_share]; simp [h1]))
    have hd : (d.many != e.many) = true := by simp [h1]
    clear h1
    go_wp2
    go_ret
    exact ⟨ret_bool H.out.symm, HB⟩
  have K1 := Lib.hid h1
  have hd1 : (d.many != e.many) = false := by simp [h1]
  clear h1
  go_wp2
  go_ret
  exact ⟨ret_bool (by symm; apply decide_eq_true; rw [eq_share]; exact ⟨K0.out, K1.out⟩), HB⟩

abbrev bulk_Sh (xs : List Share) : Nat := bulkL bulk1_share xs
set_option maxHeartbeats 1000000 in
theorem eq_Sh {S T : Nat → Prop} (v u : Value) (xs ys : List Share) (w : World) (hv : rd S w [v] xs) (hu : rd T w [u] ys) :
    Calls Tryz.prog 8 #[v, u] w fun e w' => e = .returned (.bool (decide (xs = ys))) ∧ Below w.heap.size w w' := by
  obtain ⟨a, cap, rfl, hs⟩ := rd_slice_elim (Rep.lt hv)
  obtain ⟨b, cbp, rfl, ht⟩ := rd_slice_elim (Rep.lt hu)
  have hle := hs.le
  have hle' := ht.le
  by_cases hn : xs.length = ys.length
  · have hn2 : ((xs.length : Int) != ys.length) = false := by simp [hn]
    have HN := Lib.hid hn
    clear hn
    go_enter Tryz.func8, Tryz.ntmps8
    go_wp2
    go_loopw [5] (fun i wr => (∃ k : Nat, k ≤ xs.length ∧ i = .int .i64 k ∧ Hid (decide (xs = ys) = decide (xs.drop k = ys.drop k))) ∧ Below w.heap.size w wr) (fun i _ => xs.length - (intOf i).toNat)
    case atStart => exact ⟨⟨0, by omega, rfl, rfl⟩, Below.refl _ _⟩
    case round =>
      obtain ⟨⟨k, hk, rfl, HA⟩, hb⟩ := hrel
      by_cases hlt : k < xs.length
      · have hlt' : k < ys.length := by rw [← HN.out]; exact hlt
        obtain ⟨g, off, rfl, hc0, hc1, k0, k1⟩ := (hs.keep hb).share hlt
        obtain ⟨g', off', rfl, hc0', hc1', k0', k1'⟩ := (ht.keep hb).share hlt'
        have hc0 := BW.cell hc0
        have hc0' := BW.cell hc0'
        have hc1 := BW.cell hc1
        have hc1' := BW.cell hc1'
        by_cases he : xs[k] = ys[k]
        · have hd : decide (xs[k] = ys[k]) = true := decide_eq_true he
          have HE := Lib.hid he
          clear he
          go_wp2
          refine wp_region_bw (by kernel_rfl) (by kernel_rfl) ?_
          repeat (go_big_quiet_step ((go_at_call 21; exact Calls.bw (eq1_share xs[k] ys[k]  _ ))))
          refine wpQuiet_nil ?_
          rintro w1 ⟨⟨_, hbw⟩, rfl⟩
          go_wp2
          go_roundw
          case rel => exact ⟨⟨k + 1, by omega, by go_num, eq_next HA.out hlt hlt' HE.out⟩, hb.trans (hbw.mono hb.size)⟩
          case measure => simp [intOf]; omega
        · have hd : decide (xs[k] = ys[k]) = false := decide_eq_false he
          have HE := Lib.hid he
          clear he
          go_wp2
          refine wp_region_bw (by kernel_rfl) (by kernel_rfl) ?_
          repeat (go_big_quiet_step ((go_at_call 21; exact Calls.bw (eq1_share xs[k] ys[k]  _ ))))
          refine wpQuiet_nil ?_
          rintro w1 ⟨⟨_, hbw⟩, rfl⟩
          go_wp2
          go_ret
          exact ⟨ret_bool (by rw [eq_bad HA.out hlt hlt' HE.out]), hb.trans (hbw.mono hb.size)⟩
      · go_wp2
        go_ret
        exact ⟨ret_bool (by rw [eq_end HA.out hlt (by have := HN.out; omega)]), hb⟩
  · have hn2 : ((xs.length : Int) != ys.length) = true := by simp; omega
    go_enter Tryz.func8, Tryz.ntmps8
    go_wp2
    go_ret
    exact ⟨ret_bool (by symm; apply decide_eq_false; intro e; exact hn (by rw [e])), Below.refl _ _⟩
end Go.Proofs.YthhmaclhggmneaaGreatDoor
namespace Go.Proofs.YthhmaclhggmneaaGreatDoor
open Go.RowKit Go.Vc
open Go.Vc.Rep (rd)
open Go.Vc.Own (own)

def cnt1_share (d : Share) : Nat := 1 + 1
def mark1_share (k : Int) (d : Share) : Share := ⟨markT (k), k + 1⟩
abbrev cnt_Sh (xs : List Share) : Nat := bsum cnt1_share xs
abbrev marks_Sh (k : Int) (xs : List Share) : List Share := marksL mark1_share cnt1_share k xs
theorem cnt_Sh_le (xs : List Share) : cnt_Sh xs ≤ 4 * bulk_Sh xs := bsum_le (fun d => by
  have e1 : cnt1_share d = 1 + 1 := rfl
  have e2 : bulk1_share d = d.who.size := rfl
  omega) xs
theorem marks_Sh_len (k : Int) (xs : List Share) : (marks_Sh k xs).length = xs.length := marksL_len _ _ _ _
set_option maxHeartbeats 4000000 in
theorem mark_Sh {F : List Nat} (v : Value) (xs : List Share) (k : Int) (w : World) (hv : own F w [v] xs) (hn : F.Nodup) (hk0 : 0 ≤ k) (hk1 : k + cnt_Sh xs ≤ 16777216) :
    Calls Tryz.prog 11 #[v, .int .i64 k] w fun e w' => e = .returned (.int .i64 (k + cnt_Sh xs)) ∧ Still F w w' [v] (marks_Sh k xs) := by
  obtain ⟨a, cap, rfl, hs⟩ := rd_slice_elim (Own.rd_of hv)
  have hle := hs.le
  have hk1 : k + bsum cnt1_share xs ≤ 16777216 := hk1
  go_enter Tryz.func11, Tryz.ntmps11
  go_wp2
  go_loopw [1, 5] (fun m i wr => (∃ j : Nat, j ≤ xs.length ∧ i = .int .i64 j ∧ m = .int .i64 (k + bsum cnt1_share (xs.take j))) ∧ ∃ j : Nat, i = .int .i64 j ∧ Still F w wr [.slice a xs.length cap] (over (marks_Sh k xs) xs j)) (fun _ i _ => xs.length - (intOf i).toNat)
  case atStart => exact ⟨⟨0, by omega, rfl, by simp [bsum]⟩, 0, rfl, Still.start hv hn⟩
  case round =>
    obtain ⟨⟨j, hj, rfl, rfl⟩, j', hj', hS⟩ := hrel
    obtain rfl : j' = j := by simp at hj'; omega
    clear hj'
    by_cases hlt : j' < xs.length
    · have hlm := marks_Sh_len k xs
      have hsum := bsum_take cnt1_share xs j' hlt
      have hsl := bsum_take_le cnt1_share xs (j' + 1)
      have hcd : cnt1_share xs[j'] = 1 + 1 := rfl
      rw [hcd] at hsum
      have hnext := marksL_next mark1_share cnt1_share xs k j' hlt
      obtain ⟨kk, hkk⟩ : ∃ kk : Int, k + bsum cnt1_share (xs.take j') = kk := ⟨_, rfl⟩
      have hkend : k + bsum cnt1_share (xs.take (j' + 1)) = kk + 1 + 1 := by omega
      have hkk0 : 0 ≤ kk := by omega
      have hkk1 : kk + 1 + 1 ≤ 16777216 := by omega
      rw [hkk] at hnext ⊢
      have HK := Lib.hid hkend
      have HN := Lib.hid hnext
      have hx0 := over_at' _ _ _ hlm hlt
      have hi0 := (List.getElem?_eq_some_iff.1 hx0).1
      have HI := Lib.hid hi0
      have HX := Lib.hid hx0
      have hlo := over_len _ _ j' hlm (by omega)
      obtain ⟨g, rfl⟩ := hS.addr (by rw [hlo]; omega)
      have hS : Still F w wr [.slice (some ⟨g, 0, none⟩) xs.length cap] ((over (marks_Sh k xs) xs j').set j' xs[j']) := by
        rw [set_same hx0]; exact hS
      clear hsum hsl hcd hnext hkend hkk hx0 hi0 hlo hlm
      go_wp2_with fail
      refine (markText_any _ _ (by omega)).mono ?_
      rintro e w1 ⟨rfl, hb1⟩
      have hS := hS.below hb1
      obtain ⟨⟨u0, hu0⟩, hf0, hS2⟩ := Still.setf lens_share_who hS (List.getElem?_set_self HI.out) (markT_own (kk))
      rw [List.set_set] at hS2
      have hu0' : (w1).cell? ⟨g, j' * 2, none⟩ = some u0 := hu0
      have hf0' : (w1).frozen? ⟨g, j' * 2, none⟩ = false := hf0
      have hS : Still F w ((w1).setCell ⟨g, j' * 2, none⟩ (.string (markT (kk)))) [.slice (some ⟨g, 0, none⟩) xs.length cap] ((over (marks_Sh k xs) xs j').set j' ⟨markT (kk), xs[j'].many⟩) := hS2
      clear hu0 hf0 hS2
      obtain ⟨⟨u1, hu1⟩, hf1, hS2⟩ := Still.setf lens_share_many hS (List.getElem?_set_self HI.out) (own_int (k := kk + 1) (by omega) (by omega))
      rw [List.set_set] at hS2
      have hu1' : ((w1).setCell ⟨g, j' * 2, none⟩ (.string (markT (kk)))).cell? ⟨g, j' * 2 + 1, none⟩ = some u1 := hu1
      have hf1' : ((w1).setCell ⟨g, j' * 2, none⟩ (.string (markT (kk)))).frozen? ⟨g, j' * 2 + 1, none⟩ = false := hf1
      have hS : Still F w (((w1).setCell ⟨g, j' * 2, none⟩ (.string (markT (kk)))).setCell ⟨g, j' * 2 + 1, none⟩ (.int .i64 (kk + 1))) [.slice (some ⟨g, 0, none⟩) xs.length cap] ((over (marks_Sh k xs) xs j').set j' ⟨markT (kk), (kk + 1)⟩) := hS2
      clear hu1 hf1 hS2
      have HS' := Lib.hid (show Still F w (((w1).setCell ⟨g, j' * 2, none⟩ (.string (markT (kk)))).setCell ⟨g, j' * 2 + 1, none⟩ (.int .i64 (kk + 1))) [.slice (some ⟨g, 0, none⟩) xs.length cap] (over (marks_Sh k xs) xs (j' + 1)) by rw [← HN.out]; exact hS)
      clear hS
      go_wp2
      go_roundw
      case rel => exact ⟨⟨j' + 1, by omega, by go_num, by rw [HK.out] <;> go_num⟩, j' + 1, by go_num, HS'.out⟩
      case measure => simp [intOf]; omega
    · go_wp2
      go_ret
      exact ⟨ret_int (by rw [List.take_of_length_le (by omega)]), by rw [over_all _ _ _ (marks_Sh_len k xs) hlt] at hS; exact hS⟩

theorem held_at_share {S : Nat → Prop} {w : World} {a : Option Addr} {cap : Nat} {ys : List Share} (hs : IsSlice S w a cap ys) {d : Share} {j : Nat} {k0 kk : Int} (hj : ys[j]? = some (mark1_share k0 d)) (hk : k0 = kk) :
    ∃ g off, a = some ⟨g, off, none⟩ ∧ w.cell? ⟨g, off + j * 2, none⟩ = some (.string (markT (kk))) ∧ w.cell? ⟨g, off + j * 2 + 1, none⟩ = some (.int .i64 (kk + 1)) := by
  subst hk
  obtain ⟨hj, he⟩ := List.getElem?_eq_some_iff.1 hj
  obtain ⟨g, off, rfl, hc0, hc1, k0, k1⟩ := hs.share hj
  rw [he] at hc0 k0 hc1 k1
  exact ⟨g, off, rfl, hc0, hc1⟩
set_option maxHeartbeats 4000000 in
theorem held_Sh {S : Nat → Prop} (v : Value) (xs : List Share) (k : Int) (w : World) (hv : rd S w [v] (marks_Sh k xs)) (hk0 : 0 ≤ k) (hk1 : k + cnt_Sh xs ≤ 16777216) :
    Calls Tryz.prog 12 #[v, .int .i64 k] w fun e w' => e = .returned (.int .i64 (k + cnt_Sh xs)) ∧ Below w.heap.size w w' := by
  obtain ⟨a, cap, rfl, hs⟩ := rd_slice_elim (Rep.lt hv)
  have hlm := marks_Sh_len k xs
  have hle := hs.le
  rw [hlm] at hle ⊢
  have hk1 : k + bsum cnt1_share xs ≤ 16777216 := hk1
  go_enter Tryz.func12, Tryz.ntmps12
  go_wp2
  go_loopw [1, 5] (fun m i wr => (∃ j : Nat, j ≤ xs.length ∧ i = .int .i64 j ∧ m = .int .i64 (k + bsum cnt1_share (xs.take j))) ∧ Below w.heap.size w wr) (fun _ i _ => xs.length - (intOf i).toNat)
  case atStart => exact ⟨⟨0, by omega, rfl, by simp [bsum]⟩, Below.refl _ _⟩
  case round =>
    obtain ⟨⟨j, hj, rfl, rfl⟩, hb⟩ := hrel
    by_cases hlt : j < xs.length
    · have hat := marksL_at mark1_share cnt1_share xs k j hlt (by rw [hlm]; exact hlt)
      have hat' := List.getElem?_eq_getElem (show j < (marks_Sh k xs).length by rw [hlm]; exact hlt)
      rw [hat] at hat'
      have hsum := bsum_take cnt1_share xs j hlt
      have hsl := bsum_take_le cnt1_share xs (j + 1)
      have hcd : cnt1_share xs[j] = 1 + 1 := rfl
      rw [hcd] at hsum
      obtain ⟨kk, hkk⟩ : ∃ kk : Int, k + bsum cnt1_share (xs.take j) = kk := ⟨_, rfl⟩
      have hkend : k + bsum cnt1_share (xs.take (j + 1)) = kk + 1 + 1 := by omega
      have hkk0 : 0 ≤ kk := by omega
      have hkk1 : kk + 1 + 1 ≤ 16777216 := by omega
      obtain ⟨g, off, rfl, hc0, hc1⟩ := held_at_share (hs.keep hb) hat' (kk := kk) (by rw [hkk])
      rw [hkk]
      have HK := Lib.hid hkend
      clear hsum hsl hcd hkend hkk hat hat'
      have hq0 := BW.cell hc0
      have he : decide (markT (kk) = markT (kk)) = true := by simp
      go_wp2
      refine wp_region_bw (by kernel_rfl) (by kernel_rfl) ?_
      repeat (go_big_quiet_step ((go_at_call 26; exact Calls.bw (markText_any _ _ (by omega)))))
      refine wpQuiet_nil ?_
      rintro w1 ⟨⟨_, hbw⟩, rfl⟩
      have hb1 := hbw
      clear hbw hq0 he
      obtain ⟨wo1, hwo1⟩ : ∃ wo, wo = w1 := ⟨_, rfl⟩
      subst hwo1
      have hc1 := keepc hc1 hb1
      have hb := hb.trans (hb1.mono hb.size)
      go_wp2
      go_roundw
      case rel => exact ⟨⟨j + 1, by omega, by go_num, by rw [HK.out] <;> go_num⟩, hb⟩
      case measure => simp [intOf]; omega
    · go_wp2
      go_ret
      exact ⟨ret_int (by rw [List.take_of_length_le (by omega)]), hb⟩
end Go.Proofs.YthhmaclhggmneaaGreatDoor
