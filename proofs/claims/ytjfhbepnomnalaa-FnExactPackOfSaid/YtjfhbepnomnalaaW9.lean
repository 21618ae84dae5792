/-
  Walks: marks of deltas.
-/
import Derived.Test.YtjfhbepnomnalaaHlpM
import Derived.Test.YtjfhbepnomnalaaW3
namespace Go.Proofs.Ytjfhbepnomnalaa
open Go.RowKit Go.Vc
open Go.Vc.Rep (rd)
open Go.Vc.Own (own)

def markD (k : Int) (d : Delta) : Delta := ⟨k, k + 1, marksS (k + 2) d.lines.length⟩
def countD (d : Delta) : Nat := 2 + d.lines.length

set_option maxHeartbeats 1000000 in
theorem markDeltaS_any {F : List Nat} (v : Value) (xs : List Delta) (k : Int) (w : World) (hv : own F w [v] xs) (hn : F.Nodup) (hk0 : 0 ≤ k) (hk1 : k + bsum countD xs ≤ 16777216) :
    Calls Try.prog 26 #[v, .int .i64 k] w fun e w' => e = .returned (.int .i64 (k + bsum countD xs)) ∧ Still F w w' [v] (marksL markD countD k xs) := by
  obtain ⟨a, cap, rfl, hs⟩ := rd_slice_elim (Own.rd_of hv)
  have hle := hs.le
  go_enter Try.func26, Try.ntmps26
  go_wp2
  go_loopw [1, 5] (fun m i wr => (∃ j : Nat, j ≤ xs.length ∧ i = .int .i64 j ∧ m = .int .i64 (k + bsum countD (xs.take j))) ∧ ∃ j : Nat, i = .int .i64 j ∧ Still F w wr [.slice a xs.length cap] (over (marksL markD countD k xs) xs j)) (fun _ i _ => xs.length - (intOf i).toNat)
  case atStart => exact ⟨⟨0, by omega, rfl, by simp [bsum]⟩, 0, rfl, Still.start hv hn⟩
  case round =>
    obtain ⟨⟨j, hj, rfl, rfl⟩, j', hj', hS⟩ := hrel
    obtain rfl : j' = j := by simp at hj'; omega
    clear hj'
    by_cases hlt : j' < xs.length
    · have hlm := marksL_len markD countD xs k
      obtain ⟨F', ho', hn', hof, ht⟩ := hS
      have hsum := bsum_take countD xs j' hlt
      have hsl := bsum_take_le countD xs (j' + 1)
      have hcd : countD xs[j'] = 2 + xs[j'].lines.length := rfl
      rw [hcd] at hsum
      have hnext := marksL_next markD countD xs k j' hlt
      obtain ⟨kk, hkk⟩ : ∃ kk : Int, k + bsum countD (xs.take j') = kk := ⟨_, rfl⟩
      have hk2 : k + bsum countD (xs.take (j' + 1)) = kk + 1 + 1 + xs[j'].lines.length := by omega
      have hkk0 : 0 ≤ kk := by omega
      have hkk1 : kk + 1 + 1 + xs[j'].lines.length ≤ 16777216 := by omega
      rw [hkk] at hnext
      have HK := Lib.hid hk2
      have HN := Lib.hid hnext
      have hx0 := over_at' _ _ _ hlm hlt
      have hlo := over_len _ _ j' hlm (by omega)
      obtain ⟨g, rfl, hgF⟩ := own_addr ho' (by rw [hlo]; omega)
      rw [hkk]
      clear hsum hsl hcd hnext hk2 hkk
      obtain ⟨⟨u0, hu0⟩, hf0, _, F1, ho1, hn1, hof1⟩ := own_setf' lens_delta_fr ho' hn' hx0 (own_int (k := kk) (by omega) (by omega))
      have ht1 := ht.setCell (hof g hgF) (p := ⟨g, j' * Rep.sz Delta + 0, none⟩) (.int .i64 kk)
      have hof1' := hof.trans hof1 ht.size
      have hx1 := List.getElem?_set_self (a := (⟨kk, xs[j'].many, xs[j'].lines⟩ : Delta)) (List.getElem?_eq_some_iff.1 hx0).1
      obtain ⟨⟨u1, hu1⟩, hf1, hgF1, F2, ho2, hn2, hof2⟩ := own_setf' lens_delta_many ho1 hn1 hx1 (own_int (k := kk + 1) (by omega) (by omega))
      have ht2 := ht1.setCell (hof1' g hgF1) (p := ⟨g, j' * Rep.sz Delta + 1, none⟩) (.int .i64 (kk + 1))
      have hof2' := hof1'.trans hof2 ht1.size
      rw [List.set_set] at ho2
      have hx2 := List.getElem?_set_self (a := (⟨kk, kk + 1, xs[j'].lines⟩ : Delta)) (List.getElem?_eq_some_iff.1 hx0).1
      obtain ⟨Fl, lv, hlv, hol, hnl, hsubl, hcall⟩ := own_callf' lens_delta ho2 hn2 hx2
      have hu0' : wr.cell? ⟨g, j' * 3, none⟩ = some u0 := hu0
      have hf0' : wr.frozen? ⟨g, j' * 3, none⟩ = false := hf0
      have hu1' : (wr.setCell ⟨g, j' * 3, none⟩ (.int .i64 kk)).cell? ⟨g, j' * 3 + 1, none⟩ = some u1 := hu1
      have hf1' : (wr.setCell ⟨g, j' * 3, none⟩ (.int .i64 kk)).frozen? ⟨g, j' * 3 + 1, none⟩ = false := hf1
      have hlv' : ((wr.setCell ⟨g, j' * 3, none⟩ (.int .i64 kk)).setCell ⟨g, j' * 3 + 1, none⟩ (.int .i64 (kk + 1))).cell? ⟨g, j' * 3 + 2, none⟩ = some lv := hlv
      have hol' : own Fl ((wr.setCell ⟨g, j' * 3, none⟩ (.int .i64 kk)).setCell ⟨g, j' * 3 + 1, none⟩ (.int .i64 (kk + 1))) [lv] xs[j'].lines := hol
      have HC : Hid (∀ (w' : World) (y : List ByteArray), Still Fl ((wr.setCell ⟨g, j' * 3, none⟩ (.int .i64 kk)).setCell ⟨g, j' * 3 + 1, none⟩ (.int .i64 (kk + 1))) w' [lv] y → Still F w w' [.slice (some ⟨g, 0, none⟩) xs.length cap] ((over (marksL markD countD k xs) xs j').set j' ⟨kk, kk + 1, y⟩)) := fun w' y h => by
        have := Still.step hof2' ht2 (hcall w' y h)
        rw [List.set_set] at this
        exact this
      clear hu0 hf0 hu1 hf1 hlv hol hcall ho1 ho2 ht1 ht2 hx0 hx1 hx2
      go_wp2_with fail
      refine (markStringS_any _ _ _ _ hol' hnl (by omega) (by omega)).mono ?_
      rintro e w1 ⟨rfl, hS1⟩
      have HS := HC.out _ _ hS1
      rw [show (⟨kk, kk + 1, marksS (kk + 1 + 1) xs[j'].lines.length⟩ : Delta) = markD kk xs[j'] from by unfold markD; rw [show kk + 1 + 1 = kk + 2 by omega], HN.out] at HS
      have HS' := Lib.hid HS
      clear HS hS1
      go_wp2
      go_roundw
      case rel => exact ⟨⟨j' + 1, by omega, by go_num, by rw [HK.out]⟩, j' + 1, by go_num, HS'.out⟩
      case measure => simp [intOf]; omega
    · go_wp2
      go_ret
      exact ⟨ret_int (by rw [List.take_of_length_le (by omega)]), by rw [over_all _ _ _ (marksL_len markD countD xs k) hlt] at hS; exact hS⟩

set_option maxHeartbeats 1000000 in
theorem heldDeltaS_any {S : Nat → Prop} (v : Value) (xs : List Delta) (k : Int) (w : World) (hv : rd S w [v] (marksL markD countD k xs)) (hk0 : 0 ≤ k) (hk1 : k + bsum countD xs ≤ 16777216) :
    Calls Try.prog 27 #[v, .int .i64 k] w fun e w' => e = .returned (.int .i64 (k + bsum countD xs)) ∧ Below w.heap.size w w' := by
  obtain ⟨a, cap, rfl, hs⟩ := rd_slice_elim (Rep.lt hv)
  have hlm := marksL_len markD countD xs k
  have hle := hs.le
  rw [hlm] at hle ⊢
  go_enter Try.func27, Try.ntmps27
  go_wp2
  go_loopw [1, 5] (fun m i wr => (∃ j : Nat, j ≤ xs.length ∧ i = .int .i64 j ∧ m = .int .i64 (k + bsum countD (xs.take j))) ∧ Below w.heap.size w wr) (fun _ i _ => xs.length - (intOf i).toNat)
  case atStart => exact ⟨⟨0, by omega, rfl, by simp [bsum]⟩, Below.refl _ _⟩
  case round =>
    obtain ⟨⟨j, hj, rfl, rfl⟩, hb⟩ := hrel
    by_cases hlt : j < xs.length
    · have hat := marksL_at markD countD xs k j hlt (by rw [hlm]; exact hlt)
      obtain ⟨g, off, b, n, rfl, hc0, hc1, hc2, _, _, hl⟩ := (hs.keep hb).delta (i := j) (by rw [hlm]; exact hlt)
      rw [hat] at hc0 hc1 hc2 hl
      have hsum := bsum_take countD xs j hlt
      have hsl := bsum_take_le countD xs (j + 1)
      have hcd : countD xs[j] = 2 + xs[j].lines.length := rfl
      rw [hcd] at hsum
      obtain ⟨kk, hkk⟩ : ∃ kk : Int, k + bsum countD (xs.take j) = kk := ⟨_, rfl⟩
      have hk2 : k + bsum countD (xs.take (j + 1)) = kk + 1 + 1 + xs[j].lines.length := by omega
      have hkk0 : 0 ≤ kk := by omega
      have hkk1 : kk + 1 + 1 + xs[j].lines.length ≤ 16777216 := by omega
      rw [hkk] at hc0 hc1 hc2 hl ⊢
      have HK := Lib.hid hk2
      clear hsum hsl hcd hk2 hkk hat
      have hc0' : wr.cell? ⟨g, off + j * 3, none⟩ = some (.int .i64 kk) := hc0
      have hc1' : wr.cell? ⟨g, off + j * 3 + 1, none⟩ = some (.int .i64 (kk + 1)) := hc1
      have hll : (markD kk xs[j]).lines.length = xs[j].lines.length := marksS_len _ _
      rw [hll] at hc2
      have hl' : IsSlice (fun b => b < w.heap.size) wr b n (marksS (kk + 1 + 1) xs[j].lines.length) := by
        rw [show kk + 1 + 1 = kk + 2 by omega]; exact hl
      have hrd : rd (fun b => b < w.heap.size) wr [.slice b xs[j].lines.length n] (marksS (kk + 1 + 1) xs[j].lines.length) := by
        have := hl'.rd
        rw [marksS_len] at this
        exact this
      have hnn : 0 ≤ (xs[j].lines.length : Int) := by omega
      clear hc0 hc1 hl hl' hll
      go_wp2_with (go_at_call 30; refine (heldStringS_any _ _ _ _ hrd (by omega) (by omega)).mono ?_; rintro e w1 ⟨rfl, hb1⟩)
      go_roundw
      case rel => exact ⟨⟨j + 1, by omega, by go_num, by rw [HK.out]⟩, hb.trans (hb1.mono hb.size)⟩
      case measure => simp [intOf]; omega
    · go_wp2
      go_ret
      exact ⟨ret_int (by rw [List.take_of_length_le (by omega)]), hb⟩
end Go.Proofs.Ytjfhbepnomnalaa
