/-
  Walks: marks.
-/
import Derived.Test.YtjfhbepnomnalaaHlp
import Derived.Test.YtjfhbepnomnalaaMark
import Derived.Laws.BytesArg
namespace Go.Proofs.Ytjfhbepnomnalaa
open Go.RowKit Go.Vc
open Go.Vc.Rep (rd)
open Go.Vc.Own (own)

/-- figures ahead of a text -/
def digs : Nat → Nat → ByteArray → ByteArray
  | 0, _, s => s
  | f + 1, m, s => if m = 0 then s else digs f (m / 10) (strOfNums [48 + (m : Int) % 10] ++ s)
theorem digs_end (f : Nat) (s : ByteArray) : digs f 0 s = s := by cases f <;> rfl
theorem digs_next {D : ByteArray} {f m : Nat} {s : ByteArray} (H : D = digs (f + 1) m s) (h : 0 < m) : D = digs f (m / 10) (strOfNums [48 + (m : Int) % 10] ++ s) := by rw [H, digs, if_neg (by omega)]
/-- the mark of a number -/
def markT (k : Int) : ByteArray := if k ≤ 0 then ⟨#[109, 48]⟩ else ⟨#[109]⟩ ++ digs 8 k.toNat ⟨#[]⟩
theorem pow_drop {m f : Nat} (h0 : 0 < m) (h : m < 10 ^ f) : ∃ f', f = f' + 1 ∧ m / 10 < 10 ^ f' := by
  cases f with
  | zero => simp at h; omega
  | succ f => exact ⟨f, rfl, by rw [Nat.pow_succ] at h; omega⟩

set_option maxHeartbeats 1000000 in
set_option maxRecDepth 10000 in
theorem markText_any (k : Int) (w : World) (hk : k ≤ 16777216) :
    Calls Try.prog 65 #[.int .i64 k] w fun e w' => e = .returned (.string (markT k)) ∧ Below w.heap.size w w' := by
  by_cases h0 : k ≤ 0
  · have HM : Hid (markT k = ⟨#[109, 48]⟩) := by show _ = _; rw [markT, if_pos h0]
    go_enter Try.func65, Try.ntmps65
    go_wp2
    go_ret
    exact ⟨by rw [HM.out]; rfl, Below.refl _ _⟩
  · have HM : Hid (markT k = ⟨#[109]⟩ ++ digs 8 k.toNat ⟨#[]⟩) := by show _ = _; rw [markT, if_neg h0]
    go_enter Try.func65, Try.ntmps65
    go_wp2
    go_loopw [0, 3] (fun n out wr => (∃ (m f : Nat) (s : ByteArray), n = .int .i64 m ∧ m ≤ 16777216 ∧ m < 10 ^ f ∧ out = .string s ∧ f + s.size ≤ 8 ∧ Hid (digs 8 k.toNat ⟨#[]⟩ = digs f m s)) ∧ Below w.heap.size w wr) (fun n _ _ => (intOf n).toNat)
    case atStart => exact ⟨⟨k.toNat, 8, _, by rw [Int.toNat_of_nonneg (by omega)], by omega, by omega, rfl, by show 8 + 0 ≤ 8; omega, rfl⟩, Below.refl _ _⟩
    case round =>
      obtain ⟨⟨m, f, s, rfl, hm, hmf, rfl, hs, HD⟩, hb⟩ := hrel
      have HF := Lib.hid hmf
      clear hmf
      by_cases hlt : 0 < m
      · have hcv := run_convert_bytes_arg (P := Try.prog) (w := wr.alloc (.cells #[.int .u8 (48 + (m : Int) % 10)] 5)) 38 5 Try.underlying38 Try.underlying5 wr.heap.size 0 1 1 [48 + (m : Int) % 10] rfl (fun i hi => by
          have : i = 0 := by omega
          subst this
          simp) 9 Try.underlying9
        have hmd : 0 ≤ (m : Int) % 10 ∧ (m : Int) % 10 < 10 := by omega
        have hss : (strOfNums [48 + (m : Int) % 10]).size = 1 := strOfNums_size _
        obtain ⟨f', rfl, hf'⟩ := pow_drop hlt HF.out
        have hno : ¬ 9223372036854775807 < 1 + s.size := by omega
        have HF' := Lib.hid hf'
        clear hf'
        go_wp2
        go_roundw
        case rel => exact ⟨⟨m / 10, f', strOfNums [48 + (m : Int) % 10] ++ s, by simp, by omega, HF'.out, rfl, by rw [ByteArray.size_append, hss]; omega, digs_next HD.out hlt⟩, hb.alloc hb.size _⟩
        case measure => simp [intOf]; omega
      · have hm0 : m ≤ 0 := by omega
        have hno : ¬ 9223372036854775807 < 1 + s.size := by omega
        go_wp2
        go_ret
        exact ⟨by
          have := HD.out
          obtain rfl : m = 0 := by omega
          rw [digs_end] at this
          rw [HM.out, this]; rfl, hb⟩
/-- so many marks, from k on -/
def marksS (k : Int) : Nat → List ByteArray
  | 0 => []
  | n + 1 => markT k :: marksS (k + 1) n
theorem marksS_len (n : Nat) (k : Int) : (marksS k n).length = n := by
  induction n generalizing k with
  | zero => rfl
  | succ n ih => simp [marksS, ih]
theorem marksS_at : ∀ (n : Nat) (k : Int) (i : Nat) (h : i < (marksS k n).length), (marksS k n)[i] = markT (k + i)
  | 0, _, i, h => by simp [marksS] at h
  | n + 1, k, 0, _ => by simp [marksS]
  | n + 1, k, i + 1, h => by
    have := marksS_at n (k + 1) i (by simpa [marksS] using h)
    simp only [marksS, List.getElem_cons_succ]
    rw [this]
    congr 1
    omega
theorem digs_size : ∀ (f m : Nat) (s : ByteArray), (digs f m s).size ≤ f + s.size
  | 0, _, s => by simp [digs]
  | f + 1, m, s => by
    rw [digs]
    split
    · omega
    · have := digs_size f (m / 10) (strOfNums [48 + (m : Int) % 10] ++ s)
      rw [ByteArray.size_append, strOfNums_size] at this
      simp at this
      omega
theorem markT_size (k : Int) : (markT k).size ≤ 20 := by
  unfold markT
  split
  · show 2 ≤ 20; omega
  · rw [ByteArray.size_append]
    have := digs_size 8 k.toNat ⟨#[]⟩
    have h0 : (⟨#[]⟩ : ByteArray).size = 0 := rfl
    have h1 : (⟨#[109]⟩ : ByteArray).size = 1 := rfl
    omega
theorem markT_own (k : Int) (w : World) : own [] w [.string (markT k)] (markT k) := ⟨rfl, rfl, by have := markT_size k; unfold maxLen; omega⟩

set_option maxHeartbeats 1000000 in
theorem markStringS_any {F : List Nat} (v : Value) (xs : List ByteArray) (k : Int) (w : World) (hv : own F w [v] xs) (hn : F.Nodup) (hk0 : 0 ≤ k) (hk1 : k + xs.length ≤ 16777216) :
    Calls Try.prog 25 #[v, .int .i64 k] w fun e w' => e = .returned (.int .i64 (k + xs.length)) ∧ Still F w w' [v] (marksS k xs.length) := by
  obtain ⟨a, cap, rfl, hs⟩ := rd_slice_elim (Own.rd_of hv)
  have hl : (marksS k xs.length).length = xs.length := marksS_len _ _
  have HL := Lib.hid hl
  clear hl
  go_enter Try.func25, Try.ntmps25
  go_wp2
  go_loopw [1, 5] (fun m i wr => (∃ j : Nat, j ≤ xs.length ∧ i = .int .i64 j ∧ m = .int .i64 (k + j)) ∧ ∃ j : Nat, i = .int .i64 j ∧ Still F w wr [.slice a xs.length cap] (over (marksS k xs.length) xs j)) (fun _ i _ => xs.length - (intOf i).toNat)
  case atStart => exact ⟨⟨0, by omega, rfl, by simp⟩, 0, rfl, Still.start hv hn⟩
  case round =>
    obtain ⟨⟨j, hj, rfl, rfl⟩, j', hj', hS⟩ := hrel
    obtain rfl : j' = j := by simp at hj'; omega
    clear hj'
    by_cases hlt : j' < xs.length
    · go_wp2_with fail
      refine (markText_any _ _ (by omega)).mono ?_
      rintro e w1 ⟨rfl, hb1⟩
      have hS1 := hS.below hb1
      obtain ⟨F', ho', hn', hof, ht⟩ := hS1
      have hlo := over_len (marksS k xs.length) xs j' HL.out (by omega)
      obtain ⟨g, rfl, hgF⟩ := own_addr ho' (by rw [hlo]; omega)
      obtain ⟨⟨u, hu⟩, hfz, _, FF, hoF, hnF, hFF⟩ := own_setf (lens_self rfl) ho' hn' (i := j') (by rw [hlo]; exact hlt) (markT_own (k + j'))
      clear hlo
      rw [show j' * Rep.sz ByteArray + 0 = j' from by show j' * 1 + 0 = j'; omega] at hu hfz hoF
      have HX : Hid (own FF (w1.setCell ⟨g, j', none⟩ (.string (markT (k + j')))) [.slice (some ⟨g, 0, none⟩) xs.length cap] (over (marksS k xs.length) xs (j' + 1))) := by
        have e := over_next (marksS k xs.length) xs j' HL.out hlt
        rw [marksS_at] at e
        rw [← e]
        exact hoF
      clear hoF
      go_wp2
      go_roundw
      case rel => exact ⟨⟨j' + 1, by omega, by go_num, by go_num⟩, j' + 1, by go_num, FF, HX.out, hnF, hof.trans hFF ht.size, ht.setCell (hof g hgF) _⟩
      case measure => simp [intOf]; omega
    · go_wp2
      go_ret
      exact ⟨ret_int (by omega), by rw [over_all _ _ _ HL.out hlt] at hS; exact hS⟩

set_option maxHeartbeats 1000000 in
theorem heldStringS_any {S : Nat → Prop} (v : Value) (n : Nat) (k : Int) (w : World) (hv : rd S w [v] (marksS k n)) (hk0 : 0 ≤ k) (hk1 : k + n ≤ 16777216) :
    Calls Try.prog 30 #[v, .int .i64 k] w fun e w' => e = .returned (.int .i64 (k + n)) ∧ Below w.heap.size w w' := by
  obtain ⟨a, cap, rfl, hs⟩ := rd_slice_elim (Rep.lt hv)
  have hl : (marksS k n).length = n := marksS_len _ _
  rw [hl]
  have HL := Lib.hid hl
  clear hl
  go_enter Try.func30, Try.ntmps30
  go_wp2
  go_loopw [1, 5] (fun m i wr => (∃ j : Nat, j ≤ n ∧ i = .int .i64 j ∧ m = .int .i64 (k + j)) ∧ Below w.heap.size w wr) (fun _ i _ => n - (intOf i).toNat)
  case atStart => exact ⟨⟨0, by omega, rfl, by simp⟩, Below.refl _ _⟩
  case round =>
    obtain ⟨⟨j, hj, rfl, rfl⟩, hb⟩ := hrel
    by_cases hlt : j < n
    · obtain ⟨g, off, rfl, hc, _⟩ := (hs.keep hb).str (i := j) (by rw [HL.out]; exact hlt)
      rw [marksS_at] at hc
      have hc := BW.cell hc
      have he : decide (markT (k + j) = markT (k + j)) = true := by simp
      go_wp2
      refine wp_region_bw (by kernel_rfl) (by kernel_rfl) ?_
      repeat (go_big_quiet_step ((go_at_call 65; exact Calls.bw (markText_any _ _ (by omega)))))
      refine wpQuiet_nil ?_
      rintro w1 ⟨⟨_, hbw⟩, rfl⟩
      go_wp2
      go_roundw
      case rel => exact ⟨⟨j + 1, by omega, by go_num, by go_num⟩, hb.trans (hbw.mono hb.size)⟩
      case measure => simp [intOf]; omega
    · go_wp2
      go_ret
      exact ⟨ret_int (by omega), hb⟩
end Go.Proofs.Ytjfhbepnomnalaa
