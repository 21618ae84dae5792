/-
  Walks: the laws' own helpers on [][]string.
-/
import Derived.Test.YtmblockojnaffaaDoorVD
import Derived.Test.YtmblockojnaffaaDoorVF
set_option linter.unusedVariables false
namespace Go.Proofs.YtmblockojnaffaaDoor
open Go.RowKit Go.Vc
open Go.Vc.Rep (rd)
open Go.Vc.Own (own)

theorem slz_SS : SlZ Tryd.prog 44 (List ByteArray) 24 (.slice none 0 0) := by
  obtain ⟨i, h1, h2, h3, h4⟩ := info_parts (show (Tryd.prog.info? 77).map (fun i => (i.zero, i.size, i.bytes)) = some (some (.slice none 0 0), 1, 24) by kernel_rfl)
  exact ⟨Tryd.underlying44, ⟨i, h1, h2, h3, h4⟩, fun w => ⟨_, [], [], rfl, World.ownsRow_nil _ _ _ _, rfl, trivial, Nat.one_pos⟩, Nat.one_pos⟩
theorem opn_strSS : Opn Tryd.prog 44 (List (List ByteArray)) := opn_slice Tryd.underlying44 opn_strS (by kernel_rfl) Nat.one_pos
theorem elem_SS {S : Nat → Prop} {w : World} {a : Option Addr} {cap : Nat} {xs : List (List ByteArray)} (h : IsSlice S w a cap xs) {i : Nat} (hi : i < xs.length) :
    ∃ g off b n, a = some ⟨g, off, none⟩ ∧ w.cell? ⟨g, off + i, none⟩ = some (.slice b xs[i].length n) ∧ IsSlice S w b n xs[i] := by
  obtain ⟨g, off, us, h1, _, h3, b, n, rfl, h5⟩ := h.elem hi
  exact ⟨g, off, b, n, h1, by have := h3 0 _ rfl; simpa [Rep.sz] using this, h5⟩

abbrev bulk_SS (xs : List (List ByteArray)) : Nat := bulkL bulk_S xs
set_option maxHeartbeats 1000000 in
theorem eq_SS {S T : Nat → Prop} (v u : Value) (xs ys : List (List ByteArray)) (w : World) (hv : rd S w [v] xs) (hu : rd T w [u] ys) :
    Calls Tryd.prog 32 #[v, u] w fun e w' => e = .returned (.bool (decide (xs = ys))) ∧ Below w.heap.size w w' := by
  obtain ⟨a, cap, rfl, hs⟩ := rd_slice_elim (Rep.lt hv)
  obtain ⟨b, cbp, rfl, ht⟩ := rd_slice_elim (Rep.lt hu)
  have hle := hs.le
  have hle' := ht.le
  by_cases hn : xs.length = ys.length
  · have hn2 : ((xs.length : Int) != ys.length) = false := by simp [hn]
    have HN := Lib.hid hn
    clear hn
    go_enter Tryd.func32, Tryd.ntmps32
    go_wp2
    go_loopw [5] (fun i wr => (∃ k : Nat, k ≤ xs.length ∧ i = .int .i64 k ∧ Hid (decide (xs = ys) = decide (xs.drop k = ys.drop k))) ∧ Below w.heap.size w wr) (fun i _ => xs.length - (intOf i).toNat)
    case atStart => exact ⟨⟨0, by omega, rfl, rfl⟩, Below.refl _ _⟩
    case round =>
      obtain ⟨⟨k, hk, rfl, HA⟩, hb⟩ := hrel
      by_cases hlt : k < xs.length
      · have hlt' : k < ys.length := by rw [← HN.out]; exact hlt
        obtain ⟨g, off, b1, n1, rfl, hc0, k0⟩ := elem_SS (hs.keep hb) hlt
        obtain ⟨g', off', b1', n1', rfl, hc0', k0'⟩ := elem_SS (ht.keep hb) hlt'
        have hc0 := BW.cell hc0
        have hc0' := BW.cell hc0'
        by_cases he : xs[k] = ys[k]
        · have hd : decide (xs[k] = ys[k]) = true := decide_eq_true he
          have HE := Lib.hid he
          clear he
          go_wp2
          refine wp_region_bw (by kernel_rfl) (by kernel_rfl) ?_
          repeat (go_big_quiet_step ((go_at_call 76; exact Calls.bw (eq_S _ _ xs[k] ys[k] _ (k0.bw _).rd (k0'.bw _).rd))))
          refine wpQuiet_nil ?_
          rintro w1 ⟨⟨_, hbw⟩, rfl⟩
          go_wp2
          go_roundw
          case rel => exact ⟨⟨k + 1, by omega, by go_num, eq_next HA.out hlt hlt' HE.out⟩, hb.trans (hbw.mono hb.size)⟩
          case measure => simp [intOf]; omega
        · have hd : decide (xs[k] = ys[k]) = false := decide_eq_false he
          have HE := Lib.hid he
          clear he
          go_wp2
          refine wp_region_bw (by kernel_rfl) (by kernel_rfl) ?_
          repeat (go_big_quiet_step ((go_at_call 76; exact Calls.bw (eq_S _ _ xs[k] ys[k] _ (k0.bw _).rd (k0'.bw _).rd))))
          refine wpQuiet_nil ?_
          rintro w1 ⟨⟨_, hbw⟩, rfl⟩
          go_wp2
          go_ret
          exact ⟨ret_bool (by rw [eq_bad HA.out hlt hlt' HE.out]), hb.trans (hbw.mono hb.size)⟩
      · go_wp2
        go_ret
        exact ⟨ret_bool (by rw [eq_end HA.out hlt (by have := HN.out; omega)]), hb⟩
  · have hn2 : ((xs.length : Int) != ys.length) = true := by simp; omega
    go_enter Tryd.func32, Tryd.ntmps32
    go_wp2
    go_ret
    exact ⟨ret_bool (by symm; apply decide_eq_false; intro e; exact hn (by rw [e])), Below.refl _ _⟩

abbrev cnt_SS (xs : List (List ByteArray)) : Nat := bsum cnt_S xs
abbrev marks_SS (k : Int) (xs : List (List ByteArray)) : List (List ByteArray) := marksL marks_S cnt_S k xs
theorem cnt_SS_le (xs : List (List ByteArray)) : cnt_SS xs ≤ 4 * bulk_SS xs := bsum_le (fun d => by have := cnt_S_le d; omega) xs
theorem marks_SS_len (k : Int) (xs : List (List ByteArray)) : (marks_SS k xs).length = xs.length := marksL_len _ _ _ _
set_option maxHeartbeats 4000000 in
theorem mark_SS {F : List Nat} (v : Value) (xs : List (List ByteArray)) (k : Int) (w : World) (hv : own F w [v] xs) (hn : F.Nodup) (hk0 : 0 ≤ k) (hk1 : k + cnt_SS xs ≤ 16777216) :
    Calls Tryd.prog 33 #[v, .int .i64 k] w fun e w' => e = .returned (.int .i64 (k + cnt_SS xs)) ∧ Still F w w' [v] (marks_SS k xs) := by
  obtain ⟨a, cap, rfl, hs⟩ := rd_slice_elim (Own.rd_of hv)
  have hle := hs.le
  have hk1 : k + bsum cnt_S xs ≤ 16777216 := hk1
  go_enter Tryd.func33, Tryd.ntmps33
  go_wp2
  go_loopw [1, 5] (fun m i wr => (∃ j : Nat, j ≤ xs.length ∧ i = .int .i64 j ∧ m = .int .i64 (k + bsum cnt_S (xs.take j))) ∧ ∃ j : Nat, i = .int .i64 j ∧ Still F w wr [.slice a xs.length cap] (over (marks_SS k xs) xs j)) (fun _ i _ => xs.length - (intOf i).toNat)
  case atStart => exact ⟨⟨0, by omega, rfl, by simp [bsum]⟩, 0, rfl, Still.start hv hn⟩
  case round =>
    obtain ⟨⟨j, hj, rfl, rfl⟩, j', hj', hS⟩ := hrel
    obtain rfl : j' = j := by simp at hj'; omega
    clear hj'
    by_cases hlt : j' < xs.length
    · have hlm := marks_SS_len k xs
      have hsum := bsum_take cnt_S xs j' hlt
      have hsl := bsum_take_le cnt_S xs (j' + 1)
      have hnext := marksL_next marks_S cnt_S xs k j' hlt
      obtain ⟨kk, hkk⟩ : ∃ kk : Int, k + bsum cnt_S (xs.take j') = kk := ⟨_, rfl⟩
      have hkend : k + bsum cnt_S (xs.take (j' + 1)) = kk + cnt_S xs[j'] := by omega
      have hkk0 : 0 ≤ kk := by omega
      have hkk1 : kk + cnt_S xs[j'] ≤ 16777216 := by omega
      rw [hkk] at hnext ⊢
      have HK := Lib.hid hkend
      have HN := Lib.hid hnext
      have hx0 := over_at' _ _ _ hlm hlt
      have hi0 := (List.getElem?_eq_some_iff.1 hx0).1
      have HI := Lib.hid hi0
      have hlo := over_len _ _ j' hlm (by omega)
      obtain ⟨g, rfl⟩ := hS.addr (by rw [hlo]; omega)
      have hS : Still F w wr [.slice (some ⟨g, 0, none⟩) xs.length cap] ((over (marks_SS k xs) xs j').set j' xs[j']) := by
        rw [set_same hx0]; exact hS
      clear hsum hsl hnext hkend hkk hx0 hi0 hlo hlm
      obtain ⟨Fl, lv, hlv, hol, hnl, hcall⟩ := Still.callf (lens_self (β := List ByteArray) rfl) hS (List.getElem?_set_self HI.out)
      have hlv' : wr.cell? ⟨g, j', none⟩ = some lv := by have := hlv; simpa [Rep.sz] using this
      have hol' : own Fl wr [lv] xs[j'] := hol
      have HC := Lib.hid hcall
      clear hlv hol hcall
      go_wp2_with fail
      refine (mark_S _ _ _ _ hol' hnl (by omega) (by omega)).mono ?_
      rintro e w1 ⟨rfl, hS1⟩
      have hS := HC.out _ _ hS1
      rw [List.set_set] at hS
      clear hS1 HC hnl hol' hlv'
      have HS' := Lib.hid (show Still F w w1 [.slice (some ⟨g, 0, none⟩) xs.length cap] (over (marks_SS k xs) xs (j' + 1)) by rw [← HN.out]; exact hS)
      clear hS
      go_wp2
      go_roundw
      case rel => exact ⟨⟨j' + 1, by omega, by go_num, by rw [HK.out] <;> go_num⟩, j' + 1, by go_num, HS'.out⟩
      case measure => simp [intOf]; omega
    · go_wp2
      go_ret
      exact ⟨ret_int (by rw [List.take_of_length_le (by omega)]), by rw [over_all _ _ _ (marks_SS_len k xs) hlt] at hS; exact hS⟩

end Go.Proofs.YtmblockojnaffaaDoor
