/-
  Walks: marks. / Walks: marks of []string, in one form with all others. / A small law on lists. No program is in sight here. / Walks: marks of File. / Walks: marks of []int.
-/
import Derived.Test.YthhmaclhggmneaaDoorVD
import Derived.Test.YthhmaclhggmneaaDoorVB
import Derived.Laws.BytesArg
set_option linter.unusedVariables false
namespace Go.Proofs.YthhmaclhggmneaaDoor
open Go.RowKit Go.Vc
open Go.Vc.Rep (rd)
open Go.Vc.Own (own)

/-- figures ahead of a text -/
def digs : Nat → Nat → ByteArray → ByteArray
  | 0, _, s => s
  | f + 1, m, s => if m = 0 then s else digs f (m / 10) (strOfNums [48 + (m : Int) % 10] ++ s)
theorem digs_end (f : Nat) (s : ByteArray) : digs f 0 s = s := by cases f <;> rfl
theorem digs_next {D : ByteArray} {f m : Nat} {s : ByteArray} (H : D = digs (f + 1) m s) (h : 0 < m) : D = digs f (m / 10) (strOfNums [48 + (m : Int) % 10] ++ s) := by rw [H, digs, if_neg (by omega)]
/-- the mark of a number -/
def markT (k : Int) : ByteArray := if k ≤ 0 then ⟨#[109, 48]⟩ else ⟨#[109]⟩ ++ digs 8 k.toNat ⟨#[]⟩
theorem pow_drop {m f : Nat} (h0 : 0 < m) (h : m < 10 ^ f) : ∃ f', f = f' + 1 ∧ m / 10 < 10 ^ f' := by
  cases f with
  | zero => simp at h; omega
  | succ f => exact ⟨f, rfl, by rw [Nat.pow_succ] at h; omega⟩

set_option maxHeartbeats 1000000 in
set_option maxRecDepth 10000 in
theorem markText_any (k : Int) (w : World) (hk : k ≤ 16777216) :
    Calls Tryd.prog 75 #[.int .i64 k] w fun e w' => e = .returned (.string (markT k)) ∧ Below w.heap.size w w' := by
  by_cases h0 : k ≤ 0
  · have HM : Hid (markT k = ⟨#[109, 48]⟩) := by show _ = _; rw [markT, if_pos h0]
    go_enter Tryd.func75, Tryd.ntmps75
    go_wp2
    go_ret
    exact ⟨by rw [HM.out]; rfl, Below.refl _ _⟩
  · have HM : Hid (markT k = ⟨#[109]⟩ ++ digs 8 k.toNat ⟨#[]⟩) := by show _ = _; rw [markT, if_neg h0]
    go_enter Tryd.func75, Tryd.ntmps75
    go_wp2
    go_loopw [0, 3] (fun n out wr => (∃ (m f : Nat) (s : ByteArray), n = .int .i64 m ∧ m ≤ 16777216 ∧ m < 10 ^ f ∧ out = .string s ∧ f + s.size ≤ 8 ∧ Hid (digs 8 k.toNat ⟨#[]⟩ = digs f m s)) ∧ Below w.heap.size w wr) (fun n _ _ => (intOf n).toNat)
    case atStart => exact ⟨⟨k.toNat, 8, _, by rw [Int.toNat_of_nonneg (by omega)], by omega, by omega, rfl, by show 8 + 0 ≤ 8; omega, rfl⟩, Below.refl _ _⟩
    case round =>
      obtain ⟨⟨m, f, s, rfl, hm, hmf, rfl, hs, HD⟩, hb⟩ := hrel
      have HF := Lib.hid hmf
      clear hmf
      by_cases hlt : 0 < m
      · have hcv := run_convert_bytes_arg (P := Tryd.prog) (w := wr.alloc (.cells #[.int .u8 (48 + (m : Int) % 10)] 5)) 36 5 Tryd.underlying36 Tryd.underlying5 wr.heap.size 0 1 1 [48 + (m : Int) % 10] rfl (fun i hi => by
          have : i = 0 := by omega
          subst this
          simp) 9 Tryd.underlying9
        have hmd : 0 ≤ (m : Int) % 10 ∧ (m : Int) % 10 < 10 := by omega
        have hss : (strOfNums [48 + (m : Int) % 10]).size = 1 := strOfNums_size _
        obtain ⟨f', rfl, hf'⟩ := pow_drop hlt HF.out
        have hno : ¬ 9223372036854775807 < 1 + s.size := by omega
        have HF' := Lib.hid hf'
        clear hf'
        go_wp2
        go_roundw
        case rel => exact ⟨⟨m / 10, f', strOfNums [48 + (m : Int) % 10] ++ s, by simp, by omega, HF'.out, rfl, by rw [ByteArray.size_append, hss]; omega, digs_next HD.out hlt⟩, hb.alloc hb.size _⟩
        case measure => simp [intOf]; omega
      · have hm0 : m ≤ 0 := by omega
        have hno : ¬ 9223372036854775807 < 1 + s.size := by omega
        go_wp2
        go_ret
        exact ⟨by
          have := HD.out
          obtain rfl : m = 0 := by omega
          rw [digs_end] at this
          rw [HM.out, this]; rfl, hb⟩
/-- so many marks, from k on -/
def marksS (k : Int) : Nat → List ByteArray
  | 0 => []
  | n + 1 => markT k :: marksS (k + 1) n
theorem marksS_len (n : Nat) (k : Int) : (marksS k n).length = n := by
  induction n generalizing k with
  | zero => rfl
  | succ n ih => simp [marksS, ih]
theorem marksS_at : ∀ (n : Nat) (k : Int) (i : Nat) (h : i < (marksS k n).length), (marksS k n)[i] = markT (k + i)
  | 0, _, i, h => by simp [marksS] at h
  | n + 1, k, 0, _ => by simp [marksS]
  | n + 1, k, i + 1, h => by
    have := marksS_at n (k + 1) i (by simpa [marksS] using h)
    simp only [marksS, List.getElem_cons_succ]
    rw [this]
    congr 1
    omega
theorem digs_size : ∀ (f m : Nat) (s : ByteArray), (digs f m s).size ≤ f + s.size
  | 0, _, s => by simp [digs]
  | f + 1, m, s => by
    rw [digs]
    split
    · omega
    · have := digs_size f (m / 10) (strOfNums [48 + (m : Int) % 10] ++ s)
      rw [ByteArray.size_append, strOfNums_size] at this
      simp at this
      omega
theorem markT_size (k : Int) : (markT k).size ≤ 20 := by
  unfold markT
  split
  · show 2 ≤ 20; omega
  · rw [ByteArray.size_append]
    have := digs_size 8 k.toNat ⟨#[]⟩
    have h0 : (⟨#[]⟩ : ByteArray).size = 0 := rfl
    have h1 : (⟨#[109]⟩ : ByteArray).size = 1 := rfl
    omega
theorem markT_own (k : Int) (w : World) : own [] w [.string (markT k)] (markT k) := ⟨rfl, rfl, by have := markT_size k; unfold maxLen; omega⟩

set_option maxHeartbeats 1000000 in
theorem markStringS_any {F : List Nat} (v : Value) (xs : List ByteArray) (k : Int) (w : World) (hv : own F w [v] xs) (hn : F.Nodup) (hk0 : 0 ≤ k) (hk1 : k + xs.length ≤ 16777216) :
    Calls Tryd.prog 104 #[v, .int .i64 k] w fun e w' => e = .returned (.int .i64 (k + xs.length)) ∧ Still F w w' [v] (marksS k xs.length) := by
  obtain ⟨a, cap, rfl, hs⟩ := rd_slice_elim (Own.rd_of hv)
  have hl : (marksS k xs.length).length = xs.length := marksS_len _ _
  have HL := Lib.hid hl
  clear hl
  go_enter Tryd.func104, Tryd.ntmps104
  go_wp2
  go_loopw [1, 5] (fun m i wr => (∃ j : Nat, j ≤ xs.length ∧ i = .int .i64 j ∧ m = .int .i64 (k + j)) ∧ ∃ j : Nat, i = .int .i64 j ∧ Still F w wr [.slice a xs.length cap] (over (marksS k xs.length) xs j)) (fun _ i _ => xs.length - (intOf i).toNat)
  case atStart => exact ⟨⟨0, by omega, rfl, by simp⟩, 0, rfl, Still.start hv hn⟩
  case round =>
    obtain ⟨⟨j, hj, rfl, rfl⟩, j', hj', hS⟩ := hrel
    obtain rfl : j' = j := by simp at hj'; omega
    clear hj'
    by_cases hlt : j' < xs.length
    · go_wp2_with fail
      refine (markText_any _ _ (by omega)).mono ?_
      rintro e w1 ⟨rfl, hb1⟩
      have hS1 := hS.below hb1
      obtain ⟨F', ho', hn', hof, ht⟩ := hS1
      have hlo := over_len (marksS k xs.length) xs j' HL.out (by omega)
      obtain ⟨g, rfl, hgF⟩ := own_addr ho' (by rw [hlo]; omega)
      obtain ⟨⟨u, hu⟩, hfz, _, FF, hoF, hnF, hFF⟩ := own_setf (lens_self rfl) ho' hn' (i := j') (by rw [hlo]; exact hlt) (markT_own (k + j'))
      clear hlo
      rw [show j' * Rep.sz ByteArray + 0 = j' from by show j' * 1 + 0 = j'; omega] at hu hfz hoF
      have HX : Hid (own FF (w1.setCell ⟨g, j', none⟩ (.string (markT (k + j')))) [.slice (some ⟨g, 0, none⟩) xs.length cap] (over (marksS k xs.length) xs (j' + 1))) := by
        have e := over_next (marksS k xs.length) xs j' HL.out hlt
        rw [marksS_at] at e
        rw [← e]
        exact hoF
      clear hoF
      go_wp2
      go_roundw
      case rel => exact ⟨⟨j' + 1, by omega, by go_num, by go_num⟩, j' + 1, by go_num, FF, HX.out, hnF, hof.trans hFF ht.size, ht.setCell (hof g hgF) _⟩
      case measure => simp [intOf]; omega
    · go_wp2
      go_ret
      exact ⟨ret_int (by omega), by rw [over_all _ _ _ HL.out hlt] at hS; exact hS⟩

set_option maxHeartbeats 1000000 in
theorem heldStringS_any {S : Nat → Prop} (v : Value) (n : Nat) (k : Int) (w : World) (hv : rd S w [v] (marksS k n)) (hk0 : 0 ≤ k) (hk1 : k + n ≤ 16777216) :
    Calls Tryd.prog 105 #[v, .int .i64 k] w fun e w' => e = .returned (.int .i64 (k + n)) ∧ Below w.heap.size w w' := by
  obtain ⟨a, cap, rfl, hs⟩ := rd_slice_elim (Rep.lt hv)
  have hl : (marksS k n).length = n := marksS_len _ _
  rw [hl]
  have HL := Lib.hid hl
  clear hl
  go_enter Tryd.func105, Tryd.ntmps105
  go_wp2
  go_loopw [1, 5] (fun m i wr => (∃ j : Nat, j ≤ n ∧ i = .int .i64 j ∧ m = .int .i64 (k + j)) ∧ Below w.heap.size w wr) (fun _ i _ => n - (intOf i).toNat)
  case atStart => exact ⟨⟨0, by omega, rfl, by simp⟩, Below.refl _ _⟩
  case round =>
    obtain ⟨⟨j, hj, rfl, rfl⟩, hb⟩ := hrel
    by_cases hlt : j < n
    · obtain ⟨g, off, rfl, hc, _⟩ := (hs.keep hb).str (i := j) (by rw [HL.out]; exact hlt)
      rw [marksS_at] at hc
      have hc := BW.cell hc
      have he : decide (markT (k + j) = markT (k + j)) = true := by simp
      go_wp2
      refine wp_region_bw (by kernel_rfl) (by kernel_rfl) ?_
      repeat (go_big_quiet_step ((go_at_call 75; exact Calls.bw (markText_any _ _ (by omega)))))
      refine wpQuiet_nil ?_
      rintro w1 ⟨⟨_, hbw⟩, rfl⟩
      go_wp2
      go_roundw
      case rel => exact ⟨⟨j + 1, by omega, by go_num, by go_num⟩, hb.trans (hbw.mono hb.size)⟩
      case measure => simp [intOf]; omega
    · go_wp2
      go_ret
      exact ⟨ret_int (by omega), hb⟩
end Go.Proofs.YthhmaclhggmneaaDoor
namespace Go.Vc
open Go.RowKit
open Rep (rd)
open Own (own)
/-- marks at x's blocks leave what lies elsewhere -/
theorem Still.fresh {α β : Type} [Own α] [Own β] {F : List Nat} {w w' : World} {vs zs : List Value} {x : α} {z : β} {B m B' m' : Nat} (h : Still F w w' vs x) (hF : ∀ b, b ∈ F → B ≤ b ∧ b < m) (hz : Fresh B' m' w zs z) (hd : m' ≤ B ∨ m ≤ B') : Fresh B' m' w' zs z :=
  hz.keep fun b h1 h2 h3 => h.touch.rest b h3 fun hm => by have := hF b hm; omega
theorem Still.args {α β : Type} [Own α] [Rep β] {F : List Nat} {w w' : World} {vs zs : List Value} {x : α} {z : β} {B m C : Nat} (h : Still F w w' vs x) (hF : ∀ b, b ∈ F → B ≤ b ∧ b < m) (hz : Rep.rd (fun b => b < C) w zs z) (hd : C ≤ B) : Rep.rd (fun b => b < C) w' zs z :=
  Rep.frame (fun b h1 h2 => ⟨h.touch.rest b h2 fun hm => by have := hF b hm; omega, h1⟩) hz
theorem Still.rdlt {α : Type} [Own α] {F : List Nat} {w w' : World} {vs : List Value} {x : α} (h : Still F w w' vs x) : Rep.rd (fun b => b < w'.heap.size) w' vs x := Rep.lt h.rd
end Go.Vc
namespace Go.Proofs.YthhmaclhggmneaaDoor
open Go.RowKit Go.Vc
open Go.Vc.Rep (rd)
open Go.Vc.Own (own)

abbrev cnt_S (xs : List ByteArray) : Nat := xs.length
theorem cnt_S_le (xs : List ByteArray) : cnt_S xs ≤ 4 * bulk_S xs := by show xs.length ≤ 4 * (xs.length + _); omega
theorem bsum_le {α : Type} {b c : α → Nat} {n : Nat} (h : ∀ x, c x ≤ n * (1 + b x)) : ∀ xs : List α, bsum c xs ≤ n * (xs.length + bsum b xs)
  | [] => by simp [bsum]
  | x :: r => by
    have h1 := bsum_le h r
    have h2 := h x
    rw [bsum_cons, bsum_cons, List.length_cons]
    have : n * (r.length + 1 + (b x + bsum b r)) = n * (1 + b x) + n * (r.length + bsum b r) := by rw [← Nat.mul_add]; congr 1; omega
    omega
theorem own_int {k : Int} (h0 : 0 ≤ k) (h1 : k ≤ 16777216) (w : World) : own [] w [.int .i64 k] k := ⟨rfl, rfl, by unfold I64; omega⟩
abbrev marks_S (k : Int) (xs : List ByteArray) : List ByteArray := marksS k xs.length
theorem marks_S_len (k : Int) (xs : List ByteArray) : (marks_S k xs).length = xs.length := marksS_len _ _
theorem mark_S {F : List Nat} (v : Value) (xs : List ByteArray) (k : Int) (w : World) (hv : own F w [v] xs) (hn : F.Nodup) (hk0 : 0 ≤ k) (hk1 : k + cnt_S xs ≤ 16777216) :
    Calls Tryd.prog 104 #[v, .int .i64 k] w fun e w' => e = .returned (.int .i64 (k + cnt_S xs)) ∧ Still F w w' [v] (marksS k xs.length) := markStringS_any v xs k w hv hn hk0 hk1
theorem held_S {S : Nat → Prop} (v : Value) (xs : List ByteArray) (k : Int) (w : World) (hv : rd S w [v] (marksS k xs.length)) (hk0 : 0 ≤ k) (hk1 : k + cnt_S xs ≤ 16777216) :
    Calls Tryd.prog 105 #[v, .int .i64 k] w fun e w' => e = .returned (.int .i64 (k + cnt_S xs)) ∧ Below w.heap.size w w' := heldStringS_any v xs.length k w hv hk0 hk1

end Go.Proofs.YthhmaclhggmneaaDoor
namespace Go.Vc
theorem set_same {α : Type} {l : List α} {i : Nat} {x : α} (h : l[i]? = some x) : l.set i x = l := by
  obtain ⟨hi, rfl⟩ := List.getElem?_eq_some_iff.1 h
  exact List.set_getElem_self hi
end Go.Vc
namespace Go.Proofs.YthhmaclhggmneaaDoor
open Go.RowKit Go.Vc
open Go.Vc.Rep (rd)
open Go.Vc.Own (own)

def cnt1_file (d : File) : Nat := 1 + cnt_S d.text
def mark1_file (k : Int) (d : File) : File := ⟨markT (k), marks_S (k + 1) d.text⟩
abbrev cnt_F (xs : List File) : Nat := bsum cnt1_file xs
abbrev marks_F (k : Int) (xs : List File) : List File := marksL mark1_file cnt1_file k xs
theorem cnt_F_le (xs : List File) : cnt_F xs ≤ 4 * bulk_F xs := bsum_le (fun d => by
  have e1 : cnt1_file d = 1 + cnt_S d.text := rfl
  have e2 : bulk1_file d = d.path.size + bulk_S d.text := rfl
  have := cnt_S_le d.text
  omega) xs
theorem marks_F_len (k : Int) (xs : List File) : (marks_F k xs).length = xs.length := marksL_len _ _ _ _
set_option maxHeartbeats 4000000 in
theorem mark_F {F : List Nat} (v : Value) (xs : List File) (k : Int) (w : World) (hv : own F w [v] xs) (hn : F.Nodup) (hk0 : 0 ≤ k) (hk1 : k + cnt_F xs ≤ 16777216) :
    Calls Tryd.prog 76 #[v, .int .i64 k] w fun e w' => e = .returned (.int .i64 (k + cnt_F xs)) ∧ Still F w w' [v] (marks_F k xs) := by
  obtain ⟨a, cap, rfl, hs⟩ := rd_slice_elim (Own.rd_of hv)
  have hle := hs.le
  have hk1 : k + bsum cnt1_file xs ≤ 16777216 := hk1
  go_enter Tryd.func76, Tryd.ntmps76
  go_wp2
  go_loopw [1, 5] (fun m i wr => (∃ j : Nat, j ≤ xs.length ∧ i = .int .i64 j ∧ m = .int .i64 (k + bsum cnt1_file (xs.take j))) ∧ ∃ j : Nat, i = .int .i64 j ∧ Still F w wr [.slice a xs.length cap] (over (marks_F k xs) xs j)) (fun _ i _ => xs.length - (intOf i).toNat)
  case atStart => exact ⟨⟨0, by omega, rfl, by simp [bsum]⟩, 0, rfl, Still.start hv hn⟩
  case round =>
    obtain ⟨⟨j, hj, rfl, rfl⟩, j', hj', hS⟩ := hrel
    obtain rfl : j' = j := by simp at hj'; omega
    clear hj'
    by_cases hlt : j' < xs.length
    · have hlm := marks_F_len k xs
      have hsum := bsum_take cnt1_file xs j' hlt
      have hsl := bsum_take_le cnt1_file xs (j' + 1)
      have hcd : cnt1_file xs[j'] = 1 + cnt_S xs[j'].text := rfl
      rw [hcd] at hsum
      have hnext := marksL_next mark1_file cnt1_file xs k j' hlt
      obtain ⟨kk, hkk⟩ : ∃ kk : Int, k + bsum cnt1_file (xs.take j') = kk := ⟨_, rfl⟩
      have hkend : k + bsum cnt1_file (xs.take (j' + 1)) = kk + 1 + cnt_S xs[j'].text := by omega
      have hkk0 : 0 ≤ kk := by omega
      have hkk1 : kk + 1 + cnt_S xs[j'].text ≤ 16777216 := by omega
      rw [hkk] at hnext ⊢
      have HK := Lib.hid hkend
      have HN := Lib.hid hnext
      have hx0 := over_at' _ _ _ hlm hlt
      have hi0 := (List.getElem?_eq_some_iff.1 hx0).1
      have HI := Lib.hid hi0
      have HX := Lib.hid hx0
      have hlo := over_len _ _ j' hlm (by omega)
      obtain ⟨g, rfl⟩ := hS.addr (by rw [hlo]; omega)
      have hS : Still F w wr [.slice (some ⟨g, 0, none⟩) xs.length cap] ((over (marks_F k xs) xs j').set j' xs[j']) := by
        rw [set_same hx0]; exact hS
      clear hsum hsl hcd hnext hkend hkk hx0 hi0 hlo hlm
      go_wp2_with fail
      refine (markText_any _ _ (by omega)).mono ?_
      rintro e w1 ⟨rfl, hb1⟩
      have hS := hS.below hb1
      obtain ⟨⟨u0, hu0⟩, hf0, hS2⟩ := Still.setf lens_file_path hS (List.getElem?_set_self HI.out) (markT_own (kk))
      rw [List.set_set] at hS2
      have hu0' : (w1).cell? ⟨g, j' * 2, none⟩ = some u0 := hu0
      have hf0' : (w1).frozen? ⟨g, j' * 2, none⟩ = false := hf0
      have hS : Still F w ((w1).setCell ⟨g, j' * 2, none⟩ (.string (markT (kk)))) [.slice (some ⟨g, 0, none⟩) xs.length cap] ((over (marks_F k xs) xs j').set j' ⟨markT (kk), xs[j'].text⟩) := hS2
      clear hu0 hf0 hS2
      obtain ⟨Fl, lv1, hlv, hol, hnl, hcall⟩ := Still.callf lens_file_text hS (List.getElem?_set_self HI.out)
      have hlv' : ((w1).setCell ⟨g, j' * 2, none⟩ (.string (markT (kk)))).cell? ⟨g, j' * 2 + 1, none⟩ = some lv1 := hlv
      have hol' : own Fl ((w1).setCell ⟨g, j' * 2, none⟩ (.string (markT (kk)))) [lv1] xs[j'].text := hol
      have HC := Lib.hid hcall
      clear hlv hol hcall
      go_wp2_with fail
      refine (mark_S _ _ _ _ hol' hnl (by omega) (by omega)).mono ?_
      rintro e w2 ⟨rfl, hS1⟩
      have hS := HC.out _ _ hS1
      rw [List.set_set] at hS
      clear hS1 HC hnl hol' hlv'
      have HS' := Lib.hid (show Still F w (w2) [.slice (some ⟨g, 0, none⟩) xs.length cap] (over (marks_F k xs) xs (j' + 1)) by rw [← HN.out]; exact hS)
      clear hS
      go_wp2
      go_roundw
      case rel => exact ⟨⟨j' + 1, by omega, by go_num, by rw [HK.out] <;> go_num⟩, j' + 1, by go_num, HS'.out⟩
      case measure => simp [intOf]; omega
    · go_wp2
      go_ret
      exact ⟨ret_int (by rw [List.take_of_length_le (by omega)]), by rw [over_all _ _ _ (marks_F_len k xs) hlt] at hS; exact hS⟩

theorem held_at_file {S : Nat → Prop} {w : World} {a : Option Addr} {cap : Nat} {ys : List File} (hs : IsSlice S w a cap ys) {d : File} {j : Nat} {k0 kk : Int} (hj : ys[j]? = some (mark1_file k0 d)) (hk : k0 = kk) :
    ∃ g off, a = some ⟨g, off, none⟩ ∧ w.cell? ⟨g, off + j * 2, none⟩ = some (.string (markT (kk))) ∧ (∃ lv, w.cell? ⟨g, off + j * 2 + 1, none⟩ = some lv ∧ rd S w [lv] (marks_S (kk + 1) d.text)) := by
  subst hk
  obtain ⟨hj, he⟩ := List.getElem?_eq_some_iff.1 hj
  obtain ⟨g, off, b1, n1, rfl, hc0, hc1, k0, k1⟩ := hs.file hj
  rw [he] at hc0 k0 hc1 k1
  exact ⟨g, off, rfl, hc0, ⟨_, hc1, k1.rd⟩⟩
set_option maxHeartbeats 4000000 in
theorem held_F {S : Nat → Prop} (v : Value) (xs : List File) (k : Int) (w : World) (hv : rd S w [v] (marks_F k xs)) (hk0 : 0 ≤ k) (hk1 : k + cnt_F xs ≤ 16777216) :
    Calls Tryd.prog 78 #[v, .int .i64 k] w fun e w' => e = .returned (.int .i64 (k + cnt_F xs)) ∧ Below w.heap.size w w' := by
  obtain ⟨a, cap, rfl, hs⟩ := rd_slice_elim (Rep.lt hv)
  have hlm := marks_F_len k xs
  have hle := hs.le
  rw [hlm] at hle ⊢
  have hk1 : k + bsum cnt1_file xs ≤ 16777216 := hk1
  go_enter Tryd.func78, Tryd.ntmps78
  go_wp2
  go_loopw [1, 5] (fun m i wr => (∃ j : Nat, j ≤ xs.length ∧ i = .int .i64 j ∧ m = .int .i64 (k + bsum cnt1_file (xs.take j))) ∧ Below w.heap.size w wr) (fun _ i _ => xs.length - (intOf i).toNat)
  case atStart => exact ⟨⟨0, by omega, rfl, by simp [bsum]⟩, Below.refl _ _⟩
  case round =>
    obtain ⟨⟨j, hj, rfl, rfl⟩, hb⟩ := hrel
    by_cases hlt : j < xs.length
    · have hat := marksL_at mark1_file cnt1_file xs k j hlt (by rw [hlm]; exact hlt)
      have hat' := List.getElem?_eq_getElem (show j < (marks_F k xs).length by rw [hlm]; exact hlt)
      rw [hat] at hat'
      have hsum := bsum_take cnt1_file xs j hlt
      have hsl := bsum_take_le cnt1_file xs (j + 1)
      have hcd : cnt1_file xs[j] = 1 + cnt_S xs[j].text := rfl
      rw [hcd] at hsum
      obtain ⟨kk, hkk⟩ : ∃ kk : Int, k + bsum cnt1_file (xs.take j) = kk := ⟨_, rfl⟩
      have hkend : k + bsum cnt1_file (xs.take (j + 1)) = kk + 1 + cnt_S xs[j].text := by omega
      have hkk0 : 0 ≤ kk := by omega
      have hkk1 : kk + 1 + cnt_S xs[j].text ≤ 16777216 := by omega
      obtain ⟨g, off, rfl, hc0, ⟨lv1, hc1, hr1⟩⟩ := held_at_file (hs.keep hb) hat' (kk := kk) (by rw [hkk])
      rw [hkk]
      have HK := Lib.hid hkend
      clear hsum hsl hcd hkend hkk hat hat'
      have hq0 := BW.cell hc0
      have he : decide (markT (kk) = markT (kk)) = true := by simp
      go_wp2
      refine wp_region_bw (by kernel_rfl) (by kernel_rfl) ?_
      repeat (go_big_quiet_step ((go_at_call 75; exact Calls.bw (markText_any _ _ (by omega)))))
      refine wpQuiet_nil ?_
      rintro w1 ⟨⟨_, hbw⟩, rfl⟩
      have hb1 := hbw
      clear hbw hq0 he
      obtain ⟨wo1, hwo1⟩ : ∃ wo, wo = w1 := ⟨_, rfl⟩
      subst hwo1
      have hr1 := Rep.below hr1 (Nat.le_refl _) hb1
      have hc1 := keepc hc1 hb1
      have hb := hb.trans (hb1.mono hb.size)
      have hnn : 0 ≤ (cnt_S xs[j].text : Int) := by omega
      go_wp2_with fail
      refine (held_S _ xs[j].text _ _ hr1 (by omega) (by omega)).mono ?_
      rintro e w12 ⟨rfl, hb2⟩
      have hnd : decide (kk + 1 + (cnt_S xs[j].text : Int) < 0) = false := decide_eq_false (by omega)
      clear hr1
      have hb := hb.trans (hb2.mono hb.size)
      go_wp2
      go_roundw
      case rel => exact ⟨⟨j + 1, by omega, by go_num, by rw [HK.out] <;> go_num⟩, hb⟩
      case measure => simp [intOf]; omega
    · go_wp2
      go_ret
      exact ⟨ret_int (by rw [List.take_of_length_le (by omega)]), hb⟩
end Go.Proofs.YthhmaclhggmneaaDoor
namespace Go.Proofs.YthhmaclhggmneaaDoor
open Go.RowKit Go.Vc
open Go.Vc.Rep (rd)
open Go.Vc.Own (own)

abbrev cnt_I (xs : List Int) : Nat := xs.length
theorem cnt_I_le (xs : List Int) : cnt_I xs ≤ 4 * bulk_I xs := by show xs.length ≤ 4 * xs.length; omega
def marksI (k : Int) : Nat → List Int
  | 0 => []
  | n + 1 => k :: marksI (k + 1) n
theorem marksI_len (n : Nat) (k : Int) : (marksI k n).length = n := by
  induction n generalizing k with
  | zero => rfl
  | succ n ih => simp [marksI, ih]
theorem marksI_at : ∀ (n : Nat) (k : Int) (i : Nat) (h : i < (marksI k n).length), (marksI k n)[i] = k + i
  | 0, _, i, h => by simp [marksI] at h
  | n + 1, k, 0, _ => by simp [marksI]
  | n + 1, k, i + 1, h => by
    have := marksI_at n (k + 1) i (by simpa [marksI] using h)
    simp only [marksI, List.getElem_cons_succ]
    rw [this]
    omega
abbrev marks_I (k : Int) (xs : List Int) : List Int := marksI k xs.length
theorem marks_I_len (k : Int) (xs : List Int) : (marks_I k xs).length = xs.length := marksI_len _ _

set_option maxHeartbeats 1000000 in
theorem mark_I {F : List Nat} (v : Value) (xs : List Int) (k : Int) (w : World) (hv : own F w [v] xs) (hn : F.Nodup) (hk0 : 0 ≤ k) (hk1 : k + cnt_I xs ≤ 16777216) :
    Calls Tryd.prog 74 #[v, .int .i64 k] w fun e w' => e = .returned (.int .i64 (k + cnt_I xs)) ∧ Still F w w' [v] (marksI k xs.length) := by
  obtain ⟨a, cap, rfl, hs⟩ := rd_slice_elim (Own.rd_of hv)
  have hk1 : k + xs.length ≤ 16777216 := hk1
  have hl : (marksI k xs.length).length = xs.length := marksI_len _ _
  have HL := Lib.hid hl
  clear hl
  go_enter Tryd.func74, Tryd.ntmps74
  go_wp2
  go_loopw [1, 5] (fun m i wr => (∃ j : Nat, j ≤ xs.length ∧ i = .int .i64 j ∧ m = .int .i64 (k + j)) ∧ ∃ j : Nat, i = .int .i64 j ∧ Still F w wr [.slice a xs.length cap] (over (marksI k xs.length) xs j)) (fun _ i _ => xs.length - (intOf i).toNat)
  case atStart => exact ⟨⟨0, by omega, rfl, by simp⟩, 0, rfl, Still.start hv hn⟩
  case round =>
    obtain ⟨⟨j, hj, rfl, rfl⟩, j', hj', hS⟩ := hrel
    obtain rfl : j' = j := by simp at hj'; omega
    clear hj'
    by_cases hlt : j' < xs.length
    · obtain ⟨F', ho', hn', hof, ht⟩ := hS
      have hlo := over_len (marksI k xs.length) xs j' HL.out (by omega)
      obtain ⟨g, rfl, hgF⟩ := own_addr ho' (by rw [hlo]; omega)
      obtain ⟨⟨u, hu⟩, hfz, _, FF, hoF, hnF, hFF⟩ := own_setf (lens_self rfl) ho' hn' (i := j') (by rw [hlo]; exact hlt) (own_int (k := k + j') (by omega) (by omega))
      clear hlo
      rw [show j' * Rep.sz Int + 0 = j' from by show j' * 1 + 0 = j'; omega] at hu hfz hoF
      have HX : Hid (own FF (wr.setCell ⟨g, j', none⟩ (.int .i64 (k + j'))) [.slice (some ⟨g, 0, none⟩) xs.length cap] (over (marksI k xs.length) xs (j' + 1))) := by
        have e := over_next (marksI k xs.length) xs j' HL.out hlt
        rw [marksI_at] at e
        rw [← e]
        exact hoF
      clear hoF
      go_wp2
      go_roundw
      case rel => exact ⟨⟨j' + 1, by omega, by go_num, by go_num⟩, j' + 1, by go_num, FF, HX.out, hnF, hof.trans hFF ht.size, ht.setCell (hof g hgF) _⟩
      case measure => simp [intOf]; omega
    · go_wp2
      go_ret
      exact ⟨ret_int (by show _ = k + (xs.length : Int); omega), by rw [over_all _ _ _ HL.out hlt] at hS; exact hS⟩

set_option maxHeartbeats 1000000 in
theorem held_I {S : Nat → Prop} (v : Value) (xs : List Int) (k : Int) (w : World) (hv : rd S w [v] (marksI k xs.length)) (hk0 : 0 ≤ k) (hk1 : k + cnt_I xs ≤ 16777216) :
    Calls Tryd.prog 77 #[v, .int .i64 k] w fun e w' => e = .returned (.int .i64 (k + cnt_I xs)) ∧ Below w.heap.size w w' := by
  obtain ⟨n, hn⟩ : ∃ n, n = xs.length := ⟨_, rfl⟩
  have hk1 : k + xs.length ≤ 16777216 := hk1
  show Calls _ _ _ _ fun e w' => e = .returned (.int .i64 (k + xs.length)) ∧ _
  rw [← hn] at hv hk1 ⊢
  clear hn
  obtain ⟨a, cap, rfl, hs⟩ := rd_slice_elim (Rep.lt hv)
  have hl : (marksI k n).length = n := marksI_len _ _
  rw [hl]
  have HL := Lib.hid hl
  clear hl
  go_enter Tryd.func77, Tryd.ntmps77
  go_wp2
  go_loopw [1, 5] (fun m i wr => (∃ j : Nat, j ≤ n ∧ i = .int .i64 j ∧ m = .int .i64 (k + j)) ∧ Below w.heap.size w wr) (fun _ i _ => n - (intOf i).toNat)
  case atStart => exact ⟨⟨0, by omega, rfl, by simp⟩, Below.refl _ _⟩
  case round =>
    obtain ⟨⟨j, hj, rfl, rfl⟩, hb⟩ := hrel
    by_cases hlt : j < n
    · obtain ⟨g, off, rfl, hc, _⟩ := (hs.keep hb).int (i := j) (by rw [HL.out]; exact hlt)
      rw [marksI_at] at hc
      go_wp2
      go_roundw
      case rel => exact ⟨⟨j + 1, by omega, by go_num, by go_num⟩, hb⟩
      case measure => simp [intOf]; omega
    · go_wp2
      go_ret
      exact ⟨ret_int (by omega), hb⟩
end Go.Proofs.YthhmaclhggmneaaDoor
