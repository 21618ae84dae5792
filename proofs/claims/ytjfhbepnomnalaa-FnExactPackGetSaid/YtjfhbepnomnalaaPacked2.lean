/-
  Walks: marks of Packed.
-/
import Derived.Test.YtjfhbepnomnalaaPacked1
import Derived.Test.YtjfhbepnomnalaaHlpM
import Derived.Test.YtjfhbepnomnalaaGen2
import Derived.Test.YtjfhbepnomnalaaExD
set_option linter.unusedVariables false
namespace Go.Proofs.Ytjfhbepnomnalaa
open Go.RowKit Go.Vc
open Go.Vc.Rep (rd)
open Go.Vc.Own (own)

def cnt1_packed (d : Packed) : Nat := 1 + cnt_D d.pcs
def mark1_packed (k : Int) (d : Packed) : Packed := ⟨k, marks_D (k + 1) d.pcs⟩
abbrev cnt_P (xs : List Packed) : Nat := bsum cnt1_packed xs
abbrev marks_P (k : Int) (xs : List Packed) : List Packed := marksL mark1_packed cnt1_packed k xs
theorem cnt_P_le (xs : List Packed) : cnt_P xs ≤ 4 * bulk_P xs := bsum_le (fun d => by
  have e1 : cnt1_packed d = 1 + cnt_D d.pcs := rfl
  have e2 : bulk1_packed d = bulk_D d.pcs := rfl
  have := cnt_D_le d.pcs
  omega) xs
theorem marks_P_len (k : Int) (xs : List Packed) : (marks_P k xs).length = xs.length := marksL_len _ _ _ _
set_option maxHeartbeats 4000000 in
theorem mark_P {F : List Nat} (v : Value) (xs : List Packed) (k : Int) (w : World) (hv : own F w [v] xs) (hn : F.Nodup) (hk0 : 0 ≤ k) (hk1 : k + cnt_P xs ≤ 16777216) :
    Calls Try.prog 53 #[v, .int .i64 k] w fun e w' => e = .returned (.int .i64 (k + cnt_P xs)) ∧ Still F w w' [v] (marks_P k xs) := by
  obtain ⟨a, cap, rfl, hs⟩ := rd_slice_elim (Own.rd_of hv)
  have hle := hs.le
  have hk1 : k + bsum cnt1_packed xs ≤ 16777216 := hk1
  go_enter Try.func53, Try.ntmps53
  go_wp2
  go_loopw [1, 5] (fun m i wr => (∃ j : Nat, j ≤ xs.length ∧ i = .int .i64 j ∧ m = .int .i64 (k + bsum cnt1_packed (xs.take j))) ∧ ∃ j : Nat, i = .int .i64 j ∧ Still F w wr [.slice a xs.length cap] (over (marks_P k xs) xs j)) (fun _ i _ => xs.length - (intOf i).toNat)
  case atStart => exact ⟨⟨0, by omega, rfl, by simp [bsum]⟩, 0, rfl, Still.start hv hn⟩
  case round =>
    obtain ⟨⟨j, hj, rfl, rfl⟩, j', hj', hS⟩ := hrel
    obtain rfl : j' = j := by simp at hj'; omega
    clear hj'
    by_cases hlt : j' < xs.length
    · have hlm := marks_P_len k xs
      have hsum := bsum_take cnt1_packed xs j' hlt
      have hsl := bsum_take_le cnt1_packed xs (j' + 1)
      have hcd : cnt1_packed xs[j'] = 1 + cnt_D xs[j'].pcs := rfl
      rw [hcd] at hsum
      have hnext := marksL_next mark1_packed cnt1_packed xs k j' hlt
      obtain ⟨kk, hkk⟩ : ∃ kk : Int, k + bsum cnt1_packed (xs.take j') = kk := ⟨_, rfl⟩
      have hkend : k + bsum cnt1_packed (xs.take (j' + 1)) = kk + 1 + cnt_D xs[j'].pcs := by omega
      have hkk0 : 0 ≤ kk := by omega
      have hkk1 : kk + 1 + cnt_D xs[j'].pcs ≤ 16777216 := by omega
      rw [hkk] at hnext ⊢
      have HK := Lib.hid hkend
      have HN := Lib.hid hnext
      have hx0 := over_at' _ _ _ hlm hlt
      have hi0 := (List.getElem?_eq_some_iff.1 hx0).1
      have HI := Lib.hid hi0
      have HX := Lib.hid hx0
      have hlo := over_len _ _ j' hlm (by omega)
      obtain ⟨g, rfl⟩ := hS.addr (by rw [hlo]; omega)
      have hS : Still F w wr [.slice (some ⟨g, 0, none⟩) xs.length cap] ((over (marks_P k xs) xs j').set j' xs[j']) := by
        rw [set_same hx0]; exact hS
      clear hsum hsl hcd hnext hkend hkk hx0 hi0 hlo hlm
      obtain ⟨⟨u0, hu0⟩, hf0, hS2⟩ := Still.setf lens_packed_base hS (List.getElem?_set_self HI.out) (own_int (k := kk) (by omega) (by omega))
      rw [List.set_set] at hS2
      have hu0' : (wr).cell? ⟨g, j' * 2, none⟩ = some u0 := hu0
      have hf0' : (wr).frozen? ⟨g, j' * 2, none⟩ = false := hf0
      have hS : Still F w ((wr).setCell ⟨g, j' * 2, none⟩ (.int .i64 (kk))) [.slice (some ⟨g, 0, none⟩) xs.length cap] ((over (marks_P k xs) xs j').set j' ⟨(kk), xs[j'].pcs⟩) := hS2
      clear hu0 hf0 hS2
      obtain ⟨Fl, lv1, hlv, hol, hnl, hcall⟩ := Still.callf lens_packed_pcs hS (List.getElem?_set_self HI.out)
      have hlv' : ((wr).setCell ⟨g, j' * 2, none⟩ (.int .i64 (kk))).cell? ⟨g, j' * 2 + 1, none⟩ = some lv1 := hlv
      have hol' : own Fl ((wr).setCell ⟨g, j' * 2, none⟩ (.int .i64 (kk))) [lv1] xs[j'].pcs := hol
      have HC := Lib.hid hcall
      clear hlv hol hcall
      go_wp2_with fail
      refine (mark_D _ _ _ _ hol' hnl (by omega) (by omega)).mono ?_
      rintro e w1 ⟨rfl, hS1⟩
      have hS := HC.out _ _ hS1
      rw [List.set_set] at hS
      clear hS1 HC hnl hol' hlv'
      have HS' := Lib.hid (show Still F w (w1) [.slice (some ⟨g, 0, none⟩) xs.length cap] (over (marks_P k xs) xs (j' + 1)) by rw [← HN.out]; exact hS)
      clear hS
      go_wp2
      go_roundw
      case rel => exact ⟨⟨j' + 1, by omega, by go_num, by rw [HK.out] <;> go_num⟩, j' + 1, by go_num, HS'.out⟩
      case measure => simp [intOf]; omega
    · go_wp2
      go_ret
      exact ⟨ret_int (by rw [List.take_of_length_le (by omega)]), by rw [over_all _ _ _ (marks_P_len k xs) hlt] at hS; exact hS⟩

theorem held_at_packed {S : Nat → Prop} {w : World} {a : Option Addr} {cap : Nat} {ys : List Packed} (hs : IsSlice S w a cap ys) {d : Packed} {j : Nat} {k0 kk : Int} (hj : ys[j]? = some (mark1_packed k0 d)) (hk : k0 = kk) :
    ∃ g off, a = some ⟨g, off, none⟩ ∧ w.cell? ⟨g, off + j * 2, none⟩ = some (.int .i64 (kk)) ∧ (∃ lv, w.cell? ⟨g, off + j * 2 + 1, none⟩ = some lv ∧ rd S w [lv] (marks_D (kk + 1) d.pcs)) := by
  subst hk
  obtain ⟨hj, he⟩ := List.getElem?_eq_some_iff.1 hj
  obtain ⟨g, off, b1, n1, rfl, hc0, hc1, k0, k1⟩ := hs.packed hj
  rw [he] at hc0 k0 hc1 k1
  exact ⟨g, off, rfl, hc0, ⟨_, hc1, k1.rd⟩⟩
set_option maxHeartbeats 4000000 in
theorem held_P {S : Nat → Prop} (v : Value) (xs : List Packed) (k : Int) (w : World) (hv : rd S w [v] (marks_P k xs)) (hk0 : 0 ≤ k) (hk1 : k + cnt_P xs ≤ 16777216) :
    Calls Try.prog 54 #[v, .int .i64 k] w fun e w' => e = .returned (.int .i64 (k + cnt_P xs)) ∧ Below w.heap.size w w' := by
  obtain ⟨a, cap, rfl, hs⟩ := rd_slice_elim (Rep.lt hv)
  have hlm := marks_P_len k xs
  have hle := hs.le
  rw [hlm] at hle ⊢
  have hk1 : k + bsum cnt1_packed xs ≤ 16777216 := hk1
  go_enter Try.func54, Try.ntmps54
  go_wp2
  go_loopw [1, 5] (fun m i wr => (∃ j : Nat, j ≤ xs.length ∧ i = .int .i64 j ∧ m = .int .i64 (k + bsum cnt1_packed (xs.take j))) ∧ Below w.heap.size w wr) (fun _ i _ => xs.length - (intOf i).toNat)
  case atStart => exact ⟨⟨0, by omega, rfl, by simp [bsum]⟩, Below.refl _ _⟩
  case round =>
    obtain ⟨⟨j, hj, rfl, rfl⟩, hb⟩ := hrel
    by_cases hlt : j < xs.length
    · have hat := marksL_at mark1_packed cnt1_packed xs k j hlt (by rw [hlm]; exact hlt)
      have hat' := List.getElem?_eq_getElem (show j < (marks_P k xs).length by rw [hlm]; exact hlt)
      rw [hat] at hat'
      have hsum := bsum_take cnt1_packed xs j hlt
      have hsl := bsum_take_le cnt1_packed xs (j + 1)
      have hcd : cnt1_packed xs[j] = 1 + cnt_D xs[j].pcs := rfl
      rw [hcd] at hsum
      obtain ⟨kk, hkk⟩ : ∃ kk : Int, k + bsum cnt1_packed (xs.take j) = kk := ⟨_, rfl⟩
      have hkend : k + bsum cnt1_packed (xs.take (j + 1)) = kk + 1 + cnt_D xs[j].pcs := by omega
      have hkk0 : 0 ≤ kk := by omega
      have hkk1 : kk + 1 + cnt_D xs[j].pcs ≤ 16777216 := by omega
      obtain ⟨g, off, rfl, hc0, ⟨lv1, hc1, hr1⟩⟩ := held_at_packed (hs.keep hb) hat' (kk := kk) (by rw [hkk])
      rw [hkk]
      have HK := Lib.hid hkend
      clear hsum hsl hcd hkend hkk hat hat'
      have hnn : 0 ≤ (cnt_D xs[j].pcs : Int) := by omega
      go_wp2_with fail
      refine (held_D _ xs[j].pcs _ _ hr1 (by omega) (by omega)).mono ?_
      rintro e w11 ⟨rfl, hb1⟩
      have hnd : decide (kk + 1 + (cnt_D xs[j].pcs : Int) < 0) = false := decide_eq_false (by omega)
      clear hr1
      have hb := hb.trans (hb1.mono hb.size)
      go_wp2
      go_roundw
      case rel => exact ⟨⟨j + 1, by omega, by go_num, by rw [HK.out] <;> go_num⟩, hb⟩
      case measure => simp [intOf]; omega
    · go_wp2
      go_ret
      exact ⟨ret_int (by rw [List.take_of_length_le (by omega)]), hb⟩
end Go.Proofs.Ytjfhbepnomnalaa
