/-
  Walks: lines and texts. / Walks: the laws' own helpers on []string: what they take of a budget, copies, whether two are one. / Walks: the laws' own helpers on File: what it takes of a budget, copies, whether two are one. / Walks: the laws' own helpers on []int: what they take of a budget, copies, whether two are one.
-/
import Derived.Test.YthhmaclhggmneaaDoorVTY
import Derived.Test.YthhmaclhggmneaaDoorVB
import Derived.Test.YthhmaclhggmneaaDoorVC
set_option linter.unusedVariables false
namespace Go.Proofs.YthhmaclhggmneaaDoor
open Go.RowKit Go.Vc
open Go.Vc.Rep (rd)
open Go.Vc.Own (own)

theorem ret_bool {a b : Bool} (h : a = b) : Ending.returned (.bool a) = .returned (.bool b) := by rw [h]
theorem ret_int {k : IntKind} {a b : Int} (h : a = b) : Ending.returned (.int k a) = .returned (.int k b) := by rw [h]

theorem bnot_t {b : Bool} (h : (!b) = true) : b = false := by simpa using h
theorem bnot_f {b : Bool} (h : (!b) = false) : b = true := by simpa using h

set_option maxHeartbeats 400000 in
theorem within_any (n lo hi : Int) (w : World) :
    Calls Tryd.prog 45 #[.int .i64 n, .int .i64 lo, .int .i64 hi] w fun e w' => e = .returned (.bool (withinB n lo hi)) ∧ w = w' := by
  unfold withinB
  by_cases h1 : lo ≤ n
  all_goals
    go_enter Tryd.func45, Tryd.ntmps45
    go_wp2
    go_ret
    exact ⟨by simp; try omega, rfl⟩

set_option maxHeartbeats 400000 in
theorem lineOk_any (s : ByteArray) (w : World) (hs : s.size ≤ maxLen) :
    Calls Tryd.prog 84 #[.string s] w fun e w' => e = .returned (.bool (lineB s)) ∧ w = w' := by
  unfold maxLen at hs
  by_cases h12 : 12 < s.size
  · go_enter Tryd.func84, Tryd.ntmps84
    go_wp2
    go_ret
    exact ⟨ret_bool (by simp [lineB]; omega), rfl⟩
  · go_enter Tryd.func84, Tryd.ntmps84
    go_wp2
    go_loop [3] (fun i => ∃ k : Nat, k ≤ s.size ∧ i = .int .i64 k ∧ Hid (s.data.toList.all byteOk = (s.data.toList.drop k).all byteOk)) (fun i => s.size - (intOf i).toNat)
    case atStart => exact ⟨0, by omega, rfl, rfl⟩
    case round =>
      obtain ⟨k, hk, rfl, HA⟩ := hrel
      by_cases hlt : k < s.size
      · by_cases h1 : s[k].toNat < 32
        · go_wp2
          go_ret
          exact ⟨ret_bool (by rw [lineB, all_bad HA.out (by simpa using hlt) (by rw [byte_at s k hlt]; unfold byteOk; simp; omega), Bool.and_false]), rfl⟩
        · by_cases h2 : 126 < s[k].toNat
          · go_wp2
            go_ret
            exact ⟨ret_bool (by rw [lineB, all_bad HA.out (by simpa using hlt) (by rw [byte_at s k hlt]; unfold byteOk; simp; omega), Bool.and_false]), rfl⟩
          · go_wp2
            go_round
            case rel => exact ⟨k + 1, by omega, by go_num, all_next HA.out (by simpa using hlt) (by rw [byte_at s k hlt]; unfold byteOk; simp; omega)⟩
            case measure => simp [intOf]; omega
      · go_wp2
        go_ret
        exact ⟨ret_bool (by rw [lineB, all_end HA.out (by simpa using hlt)]; simp; omega), rfl⟩

set_option maxHeartbeats 400000 in
theorem textOk_any {S : Nat → Prop} (v : Value) (xs : List ByteArray) (w : World) (hv : rd S w [v] xs) :
    Calls Tryd.prog 46 #[v] w fun e w' => e = .returned (.bool (textB xs)) ∧ w = w' := by
  obtain ⟨a, cap, rfl, hs⟩ := rd_slice_elim hv
  have hle := hs.le
  by_cases h10 : 10 < xs.length
  · go_enter Tryd.func46, Tryd.ntmps46
    go_wp2
    go_ret
    exact ⟨ret_bool (by simp [textB]; omega), rfl⟩
  · go_enter Tryd.func46, Tryd.ntmps46
    go_wp2
    go_loop [10] (fun i => ∃ k : Nat, k ≤ xs.length ∧ i = .int .i64 k ∧ Hid (xs.all lineB = (xs.drop k).all lineB)) (fun i => xs.length - (intOf i).toNat)
    case atStart => exact ⟨0, by omega, rfl, rfl⟩
    case round =>
      obtain ⟨k, hk, rfl, HA⟩ := hrel
      by_cases hlt : k < xs.length
      · obtain ⟨g, off, rfl, hc, hsz⟩ := hs.str hlt
        go_wp2_with (go_at_call 84; refine (lineOk_any _ _ hsz).mono ?_; rintro e w' ⟨rfl, rfl⟩)
        · go_ret
          exact ⟨ret_bool (by rw [textB, all_bad HA.out hlt (bnot_t (by assumption)), Bool.and_false]), rfl⟩
        · go_round
          case rel => exact ⟨k + 1, by omega, by go_num, all_next HA.out hlt (bnot_f (by assumption))⟩
          case measure => simp [intOf]; omega
      · go_wp2
        go_ret
        exact ⟨ret_bool (by rw [textB, all_end HA.out hlt]; simp; omega), rfl⟩

set_option maxHeartbeats 400000 in
theorem l1In_any (n lo hi : Int) (w : World) :
    Calls Tryd.prog 60 #[.int .i64 n, .int .i64 lo, .int .i64 hi] w fun e w' => e = .returned (.bool (withinB n lo hi)) ∧ w = w' := by
  unfold withinB
  by_cases h1 : lo ≤ n
  all_goals
    go_enter Tryd.func60, Tryd.ntmps60
    go_wp2
    go_ret
    exact ⟨by simp; try omega, rfl⟩

set_option maxHeartbeats 400000 in
theorem l1Line_any (s : ByteArray) (w : World) (hs : s.size ≤ maxLen) :
    Calls Tryd.prog 108 #[.string s] w fun e w' => e = .returned (.bool (lineB s)) ∧ w = w' := by
  unfold maxLen at hs
  go_enter Tryd.func108, Tryd.ntmps108
  go_wp2
  go_loop [3] (fun i => ∃ k : Nat, k ≤ s.size ∧ i = .int .i64 k ∧ Hid (s.data.toList.all byteOk = (s.data.toList.drop k).all byteOk)) (fun i => s.size - (intOf i).toNat)
  case atStart => exact ⟨0, by omega, rfl, rfl⟩
  case round =>
    obtain ⟨k, hk, rfl, HA⟩ := hrel
    by_cases hlt : k < s.size
    · by_cases h1 : s[k].toNat < 32
      · go_wp2
        go_ret
        exact ⟨ret_bool (by rw [lineB, all_bad HA.out (by simpa using hlt) (by rw [byte_at s k hlt]; unfold byteOk; simp; omega), Bool.and_false]), rfl⟩
      · by_cases h2 : 126 < s[k].toNat
        · go_wp2
          go_ret
          exact ⟨ret_bool (by rw [lineB, all_bad HA.out (by simpa using hlt) (by rw [byte_at s k hlt]; unfold byteOk; simp; omega), Bool.and_false]), rfl⟩
        · go_wp2
          go_round
          case rel => exact ⟨k + 1, by omega, by go_num, all_next HA.out (by simpa using hlt) (by rw [byte_at s k hlt]; unfold byteOk; simp; omega)⟩
          case measure => simp [intOf]; omega
    · go_wp2
      go_ret
      exact ⟨ret_bool (by rw [lineB, all_end HA.out (by simpa using hlt)]; simp; omega), rfl⟩

set_option maxHeartbeats 400000 in
theorem l1Ok_any {S : Nat → Prop} (v : Value) (xs : List ByteArray) (w : World) (hv : rd S w [v] xs) :
    Calls Tryd.prog 82 #[v] w fun e w' => e = .returned (.bool (textB xs)) ∧ w = w' := by
  obtain ⟨a, cap, rfl, hs⟩ := rd_slice_elim hv
  have hle := hs.le
  go_enter Tryd.func82, Tryd.ntmps82
  go_wp2
  go_loop [3] (fun i => ∃ k : Nat, k ≤ xs.length ∧ i = .int .i64 k ∧ Hid (xs.all lineB = (xs.drop k).all lineB)) (fun i => xs.length - (intOf i).toNat)
  case atStart => exact ⟨0, by omega, rfl, rfl⟩
  case round =>
    obtain ⟨k, hk, rfl, HA⟩ := hrel
    by_cases hlt : k < xs.length
    · obtain ⟨g, off, rfl, hc, hsz⟩ := hs.str hlt
      go_wp2_with (go_at_call 108; refine (l1Line_any _ _ hsz).mono ?_; rintro e w' ⟨rfl, rfl⟩)
      · go_ret
        exact ⟨ret_bool (by rw [textB, all_bad HA.out hlt (bnot_t (by assumption)), Bool.and_false]), rfl⟩
      · go_round
        case rel => exact ⟨k + 1, by omega, by go_num, all_next HA.out hlt (bnot_f (by assumption))⟩
        case measure => simp [intOf]; omega
    · go_wp2
      go_ret
      exact ⟨ret_bool (by rw [textB, all_end HA.out hlt]; simp; omega), rfl⟩
end Go.Proofs.YthhmaclhggmneaaDoor
namespace Go.Proofs.YthhmaclhggmneaaDoor
open Go.RowKit Go.Vc
open Go.Vc.Rep (rd)
open Go.Vc.Own (own)

abbrev bulk_S (xs : List ByteArray) : Nat := bulkS xs
set_option maxHeartbeats 400000 in
theorem szStringS_any {S : Nat → Prop} (v : Value) (xs : List ByteArray) (l : Int) (w : World) (hv : rd S w [v] xs) (hl0 : 0 ≤ l) (hl1 : l ≤ 1048576) :
    Calls Tryd.prog 128 #[v, .int .i64 l] w fun e w' => e = .returned (.int .i64 (sub l (bulkS xs))) ∧ w = w' := by
  obtain ⟨a, cap, rfl, hs⟩ := rd_slice_elim hv
  have hle := hs.le
  by_cases h0 : l - xs.length < 0
  · go_enter Tryd.func128, Tryd.ntmps128
    go_wp2
    go_ret
    exact ⟨ret_int (by rw [bulkS, bulkL, sub_bad _ (by omega)]), rfl⟩
  · go_enter Tryd.func128, Tryd.ntmps128
    go_wp2
    go_loop [1, 5] (fun left i => ∃ (k : Nat) (m : Int), k ≤ xs.length ∧ i = .int .i64 k ∧ left = .int .i64 m ∧ 0 ≤ m ∧ m ≤ 1048576 ∧ Hid (sub l (bulkS xs) = sub m (bsum ByteArray.size (xs.drop k)))) (fun _ i => xs.length - (intOf i).toNat)
    case atStart => exact ⟨0, _, by omega, rfl, rfl, by omega, by omega, by show _ = _; rw [bulkS, bulkL, sub_next _ (by omega)]; rfl⟩
    case round =>
      obtain ⟨k, m, hk, rfl, rfl, hm0, hm1, HA⟩ := hrel
      by_cases hlt : k < xs.length
      · obtain ⟨g, off, rfl, hc, hsz⟩ := hs.str hlt
        unfold maxLen at hsz
        by_cases hneg : m - xs[k].size < 0
        · go_wp2
          go_ret
          exact ⟨ret_int (by rw [HA.out, bsum_drop _ _ _ hlt, sub_bad _ (by omega)]), rfl⟩
        · go_wp2
          go_round
          case rel => exact ⟨k + 1, m - xs[k].size, by omega, by go_num, rfl, by omega, by omega, by show _ = _; rw [HA.out, bsum_drop _ _ _ hlt, sub_next _ (by omega)]⟩
          case measure => simp [intOf]; omega
      · go_wp2
        go_ret
        exact ⟨ret_int (by rw [HA.out, bsum_end _ _ _ hlt, sub_zero _ hm0]), rfl⟩

set_option maxHeartbeats 400000 in
theorem eqStringS_any {S T : Nat → Prop} (v u : Value) (xs ys : List ByteArray) (w : World) (hv : rd S w [v] xs) (hu : rd T w [u] ys) :
    Calls Tryd.prog 131 #[v, u] w fun e w' => e = .returned (.bool (decide (xs = ys))) ∧ ∃ n, w' = w.drewN n := by
  obtain ⟨a, cap, rfl, hs⟩ := rd_slice_elim hv
  obtain ⟨b, cbp, rfl, ht⟩ := rd_slice_elim hu
  have hle := hs.le
  have hle' := ht.le
  by_cases hn : xs.length = ys.length
  · have hn2 : ((xs.length : Int) != ys.length) = false := by simp [hn]
    have HN := Lib.hid hn
    clear hn
    go_enter Tryd.func131, Tryd.ntmps131
    go_wp2
    go_loopw [5] (fun i wr => (∃ k : Nat, k ≤ xs.length ∧ i = .int .i64 k ∧ Hid (decide (xs = ys) = decide (xs.drop k = ys.drop k))) ∧ ∃ n, wr = w.drewN n) (fun i _ => xs.length - (intOf i).toNat)
    case atStart => exact ⟨⟨0, by omega, rfl, rfl⟩, 0, rfl⟩
    case round =>
      obtain ⟨⟨k, hk, rfl, HA⟩, nw, rfl⟩ := hrel
      by_cases hlt : k < xs.length
      · have hlt' : k < ys.length := by rw [← HN.out]; exact hlt
        obtain ⟨g, off, rfl, hc, _⟩ := hs.str hlt
        obtain ⟨g', off', rfl, hc', _⟩ := ht.str hlt'
        by_cases he : xs[k] = ys[k]
        · have he2 : decide (xs[k] = ys[k]) = true := decide_eq_true he
          have HE := Lib.hid he
          clear he
          go_wp2
          go_quiet (fail)
          go_wp2
          go_roundw
          case rel => exact ⟨⟨k + 1, by omega, by go_num, eq_next HA.out hlt hlt' HE.out⟩, _, rfl⟩
          case measure => simp [intOf]; omega
        · have he2 : decide (xs[k] = ys[k]) = false := decide_eq_false he
          go_wp2
          go_quiet (fail)
          go_wp2
          go_ret
          exact ⟨ret_bool (by rw [eq_bad HA.out hlt hlt' he]), drew_any⟩
      · go_wp2
        go_ret
        exact ⟨ret_bool (by rw [eq_end HA.out hlt (by have := HN.out; omega)]), _, rfl⟩
  · have hn2 : ((xs.length : Int) != ys.length) = true := by simp; omega
    go_enter Tryd.func131, Tryd.ntmps131
    go_wp2
    go_ret
    exact ⟨ret_bool (by symm; apply decide_eq_false; intro e; exact hn (by rw [e])), 0, rfl⟩
set_option maxHeartbeats 400000 in
theorem toStringS_any {S : Nat → Prop} (v : Value) (xs : List ByteArray) (w : World) (hv : rd S w [v] xs) (hlen : xs.length ≤ 1048576) :
    Calls Tryd.prog 129 #[v] w fun e w' => ∃ v', e = .returned v' ∧ Fresh w.heap.size w'.heap.size w' [v'] xs ∧ Below w.heap.size w w' := by
  obtain ⟨a, cap, rfl, hs⟩ := rd_slice_elim (Rep.lt hv)
  have hmk := slz_string.make xs.length (by omega) (by unfold maxLen; omega)
  go_enter Tryd.func129, Tryd.ntmps129
  go_wp2
  clear hmk
  go_loopw [4] (fun i wr => (∃ k : Nat, k ≤ xs.length ∧ i = .int .i64 k ∧ Fresh w.heap.size wr.heap.size wr [.slice (some ⟨w.heap.size, 0, none⟩) xs.length xs.length] (fill xs (⟨#[]⟩ : ByteArray) k)) ∧ Below w.heap.size w wr) (fun i _ => xs.length - (intOf i).toNat)
  case atStart => exact ⟨⟨0, by omega, rfl, by rw [fill_zero]; exact (Fresh.made slz_string.hz slz_string.pos _ _ (by unfold maxLen; omega) (Nat.le_refl _)).now⟩, (Below.refl _ _).alloc (Nat.le_refl _) _⟩
  case round =>
    obtain ⟨⟨k, hk, rfl, hF⟩, hb⟩ := hrel
    by_cases hlt : k < xs.length
    · obtain ⟨g, off, rfl, hc, hsz⟩ := (hs.keep hb).str hlt
      obtain ⟨⟨u, hu⟩, hfz, _, _⟩ := hF.there1 rfl (i := k) (by rw [fill_len _ _ _ hk]; exact hlt)
      go_wp2
      go_roundw
      case rel => exact ⟨⟨k + 1, by omega, by go_num, by have := hF.set1 rfl (by rw [fill_len _ _ _ hk]; exact hlt) (Fresh.leaf (m := wr.heap.size) ⟨rfl, rfl, hsz⟩) hb.size; rw [fill_next _ _ _ hlt] at this; exact this⟩, hb.setCell (Nat.le_refl _) _⟩
      case measure => simp [intOf]; omega
    · go_wp2
      go_ret
      exact ⟨_, rfl, by have := hF.now; rw [fill_all _ _ _ hlt] at this; exact this, hb⟩
theorem sz_S {S : Nat → Prop} (v : Value) (xs : List ByteArray) (l : Int) (w : World) (hv : rd S w [v] xs) (hl0 : 0 ≤ l) (hl1 : l ≤ 1048576) :
    Calls Tryd.prog 128 #[v, .int .i64 l] w fun e w' => e = .returned (.int .i64 (sub l (bulk_S xs))) ∧ Below w.heap.size w w' :=
  (szStringS_any v xs l w hv hl0 hl1).mono fun _ _ ⟨h, e⟩ => ⟨h, e ▸ Below.refl _ _⟩
theorem to_S {S : Nat → Prop} (v : Value) (xs : List ByteArray) (w : World) (hv : rd S w [v] xs) (hlen : bulk_S xs ≤ 1048576) :
    Calls Tryd.prog 129 #[v] w fun e w' => ∃ v', e = .returned v' ∧ Fresh w.heap.size w'.heap.size w' [v'] xs ∧ Below w.heap.size w w' :=
  toStringS_any v xs w hv (by have : bulk_S xs = xs.length + bsum ByteArray.size xs := rfl; omega)
theorem eq_S {S T : Nat → Prop} (v u : Value) (xs ys : List ByteArray) (w : World) (hv : rd S w [v] xs) (hu : rd T w [u] ys) :
    Calls Tryd.prog 131 #[v, u] w fun e w' => e = .returned (.bool (decide (xs = ys))) ∧ Below w.heap.size w w' :=
  (eqStringS_any v u xs ys w hv hu).mono fun _ _ ⟨h, n, e⟩ => ⟨h, e ▸ below_drewN (Below.refl _ _) n⟩
end Go.Proofs.YthhmaclhggmneaaDoor
namespace Go.Proofs.YthhmaclhggmneaaDoor
open Go.RowKit Go.Vc
open Go.Vc.Rep (rd)
open Go.Vc.Own (own)

def bulk1_file (d : File) : Nat := d.path.size + bulk_S d.text
set_option maxHeartbeats 1000000 in
theorem sz1_file {S : Nat → Prop} (d : File) (v1 : Value) (l : Int) (w : World) (hs0 : d.path.size ≤ maxLen) (hv1 : rd S w [v1] d.text) (hl0 : 0 ≤ l) (hl1 : l ≤ 1048576) :
    Calls Tryd.prog 113 #[.agg #[.string d.path, v1], .int .i64 l] w fun e w' => e = .returned (.int .i64 (sub l (bulk1_file d))) ∧ Below w.heap.size w w' := by
  have hv1 := Rep.lt hv1
  unfold maxLen at hs0
  have HB := (Below.refl w.heap.size w).alloc (Nat.le_refl _) (.cells #[.string d.path, v1] 137)
  have hv1 := Rep.keep hv1 HB
  go_enter Tryd.func113, Tryd.ntmps113
  by_cases h0 : l - (d.path.size : Int) < 0
  · go_wp2
    go_ret
    exact ⟨ret_int (by rw [sub_lt (l := l) (n := bulk1_file d) (by unfold bulk1_file; omega)]), HB⟩
  · have hd0 : 0 ≤ l - (d.path.size : Int) := by omega
    have he0 : decide (l - (d.path.size : Int) < 0) = false := decide_eq_false h0
    go_wp2_with fail
    refine (sz_S _ d.text _ _ hv1 (by omega) (by omega)).mono ?_
    rintro e w1 ⟨rfl, hb1⟩
    have HB := HB.trans (hb1.mono HB.size)
    by_cases h1 : sub (l - (d.path.size : Int)) (bulk_S d.text) < 0
    · have hq := sub_facts' (by omega) h1
      go_wp2
      go_ret
      exact ⟨ret_int (by rw [sub_lt (l := l) (n := bulk1_file d) (by unfold bulk1_file; omega)]), HB⟩
    · obtain ⟨hq1, hp1, hr1⟩ := sub_facts (by omega) h1
      have HQ1 := Lib.hid hq1
      clear hq1
      go_wp2
      go_ret
      exact ⟨ret_int (by have e1 := HQ1.out; rw [sub_eq (l := l) (n := bulk1_file d) (by unfold bulk1_file; omega)]; unfold bulk1_file; omega), HB⟩

set_option maxHeartbeats 1000000 in
theorem to1_file {S : Nat → Prop} (d : File) (v1 : Value) (w : World) (hv1 : rd S w [v1] d.text) (hl1 : bulk_S d.text ≤ 1048576) :
    Calls Tryd.prog 114 #[.agg #[.string d.path, v1]] w fun e w' => ∃ a1 c1, e = .returned (.agg #[.string d.path, .slice a1 d.text.length c1]) ∧ Fresh w.heap.size w'.heap.size w' [.slice a1 d.text.length c1] d.text ∧ Below w.heap.size w w' := by
  have hv1 := Rep.lt hv1
  go_enter Tryd.func114, Tryd.ntmps114
  go_wp2_with fail
  refine (to_S _ d.text _ (Rep.alloc (Rep.alloc (Rep.alloc hv1 _) _) _) hl1).mono ?_
  rintro e w1 ⟨x1, rfl, hF1, hb1⟩
  obtain ⟨a1, c1, rfl, _⟩ := hF1.shape
  have hz : w.heap.size + 2 < w1.heap.size := by have := hb1.size; simp at this; omega
  have HB1 := (((((Below.refl _ _).alloc (by simp <;> omega) _).alloc (by simp <;> omega) _).alloc (by simp <;> omega) _) : Below w.heap.size w _).trans (hb1.mono (by simp <;> omega))
  have hF1 := hF1.mono (B' := w.heap.size + 3) (by simp <;> omega) (Nat.le_refl _)
  obtain ⟨hc1, hf1⟩ := bcell hb1
  go_wp2
  refine bodyPost_ret (v := .agg #[.string d.path, .slice a1 d.text.length c1]) (by simp [results, Tryd.results114, go_sem, hc1]) rfl ⟨a1, c1, rfl, ?_, ?_⟩
  · exact (((hF1.setCell (.inl (by simp <;> omega))).setCell (.inl (by simp <;> omega))).setCell (.inl (by simp <;> omega))).now.mono (by simp <;> omega) (Nat.le_refl _)
  · exact (((HB1.setCell (by simp <;> omega) _).setCell (by simp <;> omega) _).setCell (by simp <;> omega) _)

set_option maxHeartbeats 1000000 in
theorem eq1_file {S T : Nat → Prop} (d e : File) (v1 u1 : Value) (w : World) (hv1 : rd S w [v1] d.text) (hu1 : rd T w [u1] e.text) :
    Calls Tryd.prog 116 #[.agg #[.string d.path, v1], .agg #[.string e.path, u1]] w fun r w' => r = .returned (.bool (decide (d = e))) ∧ Below w.heap.size w w' := by
  have HB := ((Below.refl w.heap.size w).alloc (Nat.le_refl _) (.cells #[.string d.path, v1] 102)).alloc (by simp <;> omega) (.cells #[.string e.path, u1] 102)
  have hv1 := Rep.keep (Rep.lt hv1) HB
  have hu1 := Rep.keep (Rep.lt hu1) HB
  go_enter Tryd.func116, Tryd.ntmps116
  by_cases h0 : d.path = e.path
  rotate_left
  · have H := Lib.hid (show decide (d = e) = false from decide_eq_false (by rw [eq_file]; simp [h0]))
    have hd : decide (d.path = e.path) = false := decide_eq_false h0
    clear h0
    go_wp2
    go_ret
    exact ⟨ret_bool H.out.symm, HB⟩
  have K0 := Lib.hid h0
  have hd0 : decide (d.path = e.path) = true := decide_eq_true h0
  clear h0
  go_wp2_with fail
  refine (eq_S _ _ _ _ _ hv1 hu1).mono ?_
  rintro r w1 ⟨rfl, hb1⟩
  have HB := HB.trans (hb1.mono HB.size)
  by_cases h1 : d.text = e.text
  rotate_left
  · have H := Lib.hid (show decide (d = e) = false from decide_eq_false (by rw [eq_file]; simp [h1]))
    have hd : decide (d.text = e.text) = false := decide_eq_false h1
    clear h1
    go_wp2
    go_ret
    exact ⟨ret_bool H.out.symm, HB⟩
  have K1 := Lib.hid h1
  have hd1 : decide (d.text = e.text) = true := decide_eq_true h1
  clear h1
  go_wp2
  go_ret
  exact ⟨ret_bool (by symm; apply decide_eq_true; rw [eq_file]; exact ⟨K0.out, K1.out⟩), HB⟩

abbrev bulk_F (xs : List File) : Nat := bulkL bulk1_file xs
set_option maxHeartbeats 1000000 in
theorem sz_F {S : Nat → Prop} (v : Value) (xs : List File) (l : Int) (w : World) (hv : rd S w [v] xs) (hl0 : 0 ≤ l) (hl1 : l ≤ 1048576) :
    Calls Tryd.prog 93 #[v, .int .i64 l] w fun e w' => e = .returned (.int .i64 (sub l (bulk_F xs))) ∧ Below w.heap.size w w' := by
  obtain ⟨a, cap, rfl, hs⟩ := rd_slice_elim (Rep.lt hv)
  have hle := hs.le
  by_cases h0 : l - xs.length < 0
  · go_enter Tryd.func93, Tryd.ntmps93
    go_wp2
    go_ret
    exact ⟨ret_int (by rw [bulk_F, bulkL, sub_bad _ (by omega)]), Below.refl _ _⟩
  · go_enter Tryd.func93, Tryd.ntmps93
    go_wp2
    go_loopw [1, 5] (fun left i wr => (∃ (k : Nat) (m : Int), k ≤ xs.length ∧ i = .int .i64 k ∧ left = .int .i64 m ∧ 0 ≤ m ∧ m ≤ 1048576 ∧ Hid (sub l (bulk_F xs) = sub m (bsum bulk1_file (xs.drop k)))) ∧ Below w.heap.size w wr) (fun _ i _ => xs.length - (intOf i).toNat)
    case atStart => exact ⟨⟨0, _, by omega, rfl, rfl, by omega, by omega, by show _ = _; rw [bulk_F, bulkL, sub_next _ (by omega)]; rfl⟩, Below.refl _ _⟩
    case round =>
      obtain ⟨⟨k, m, hk, rfl, rfl, hm0, hm1, HA⟩, hb⟩ := hrel
      by_cases hlt : k < xs.length
      · obtain ⟨g, off, b1, n1, rfl, hc0, hc1, k0, k1⟩ := (hs.keep hb).file hlt
        go_wp2_with (go_at_call 113; refine (sz1_file xs[k] _ _ _ k0 k1.rd hm0 hm1).mono ?_; rintro e w' ⟨rfl, hb1⟩)
        · have hn := sub_neg (by assumption) hm0
          go_ret
          exact ⟨ret_int (by rw [HA.out, bsum_drop _ _ _ hlt, sub_bad _ hn]), hb.trans (hb1.mono hb.size)⟩
        · have hp := sub_pos (by assumption)
          have hq := sub_le (bulk1_file xs[k]) hm0
          go_roundw
          case rel => exact ⟨⟨k + 1, _, by omega, by go_num, rfl, by assumption, by omega, by show _ = _; rw [HA.out, bsum_drop _ _ _ hlt, sub_next _ hp.1, hp.2]⟩, hb.trans (hb1.mono hb.size)⟩
          case measure => simp [intOf]; omega
      · go_wp2
        go_ret
        exact ⟨ret_int (by rw [HA.out, bsum_end _ _ _ hlt, sub_zero _ hm0]), hb⟩

set_option maxHeartbeats 1000000 in
theorem to_F {S : Nat → Prop} (v : Value) (xs : List File) (w : World) (hv : rd S w [v] xs) (hlen : bulk_F xs ≤ 1048576) :
    Calls Tryd.prog 97 #[v] w fun e w' => ∃ v', e = .returned v' ∧ Fresh w.heap.size w'.heap.size w' [v'] xs ∧ Below w.heap.size w w' := by
  obtain ⟨a, cap, rfl, hs⟩ := rd_slice_elim (Rep.lt hv)
  have hlen1 : xs.length ≤ 1048576 := by unfold bulk_F bulkL at hlen; omega
  have hlen2 : ∀ k (h : k < xs.length), bulk_S xs[k].text ≤ 1048576 := fun k h => by
    have := bsum_at bulk1_file xs k h
    unfold bulk_F bulkL at hlen
    have e : bulk1_file xs[k] = xs[k].path.size + bulk_S xs[k].text := rfl
    omega
  have HL := Lib.hid hlen2
  clear hlen2
  have hmk := slz_file.make xs.length (by omega) (by unfold maxLen; omega)
  go_enter Tryd.func97, Tryd.ntmps97
  go_wp2
  clear hmk
  go_loopw [4] (fun i wr => (∃ k : Nat, k ≤ xs.length ∧ i = .int .i64 k ∧ Fresh w.heap.size wr.heap.size wr [.slice (some ⟨w.heap.size, 0, none⟩) xs.length xs.length] (fill xs (Zr.zr : File) k)) ∧ Below w.heap.size w wr) (fun i _ => xs.length - (intOf i).toNat)
  case atStart => exact ⟨⟨0, by omega, rfl, by rw [fill_zero]; exact (Fresh.made slz_file.hz slz_file.pos _ _ (by unfold maxLen; omega) (Nat.le_refl _)).now⟩, (Below.refl _ _).alloc (Nat.le_refl _) _⟩
  case round =>
    obtain ⟨⟨k, hk, rfl, hF⟩, hb⟩ := hrel
    by_cases hlt : k < xs.length
    · obtain ⟨g, off, b1, n1, rfl, hc0, hc1, k0, k1⟩ := (hs.keep hb).file hlt
      go_wp2_with fail
      refine (to1_file xs[k] _ _ k1.rd (HL.out k hlt)).mono ?_
      rintro e w1 ⟨a', c', rfl, hF1, hb1⟩
      have hNew := Fresh.file (p := xs[k]) k0 hF1
      have hF2 := hF.belowm (Nat.le_refl _) hb1
      obtain ⟨u0, u1, hu0, hu1, hf0, hf1⟩ := hF2.cells2 rfl (i := k) (by rw [fill_len _ _ _ hk]; exact hlt)
      go_wp2
      go_roundw
      case rel => exact ⟨⟨k + 1, by omega, by go_num, by have := hF2.setN (by rw [fill_len _ _ _ hk]; exact hlt) hNew hb.size; rw [fill_next _ _ _ hlt] at this; exact this⟩, ((hb.trans (hb1.mono hb.size)).setCell (Nat.le_refl _) _).setCell (Nat.le_refl _) _⟩
      case measure => simp [intOf]; omega
    · go_wp2
      go_ret
      exact ⟨_, rfl, by have := hF.now; rw [fill_all _ _ _ hlt] at this; exact this, hb⟩

set_option maxHeartbeats 1000000 in
theorem eq_F {S T : Nat → Prop} (v u : Value) (xs ys : List File) (w : World) (hv : rd S w [v] xs) (hu : rd T w [u] ys) :
    Calls Tryd.prog 103 #[v, u] w fun e w' => e = .returned (.bool (decide (xs = ys))) ∧ Below w.heap.size w w' := by
  obtain ⟨a, cap, rfl, hs⟩ := rd_slice_elim (Rep.lt hv)
  obtain ⟨b, cbp, rfl, ht⟩ := rd_slice_elim (Rep.lt hu)
  have hle := hs.le
  have hle' := ht.le
  by_cases hn : xs.length = ys.length
  · have hn2 : ((xs.length : Int) != ys.length) = false := by simp [hn]
    have HN := Lib.hid hn
    clear hn
    go_enter Tryd.func103, Tryd.ntmps103
    go_wp2
    go_loopw [5] (fun i wr => (∃ k : Nat, k ≤ xs.length ∧ i = .int .i64 k ∧ Hid (decide (xs = ys) = decide (xs.drop k = ys.drop k))) ∧ Below w.heap.size w wr) (fun i _ => xs.length - (intOf i).toNat)
    case atStart => exact ⟨⟨0, by omega, rfl, rfl⟩, Below.refl _ _⟩
    case round =>
      obtain ⟨⟨k, hk, rfl, HA⟩, hb⟩ := hrel
      by_cases hlt : k < xs.length
      · have hlt' : k < ys.length := by rw [← HN.out]; exact hlt
        obtain ⟨g, off, b1, n1, rfl, hc0, hc1, k0, k1⟩ := (hs.keep hb).file hlt
        obtain ⟨g', off', b1', n1', rfl, hc0', hc1', k0', k1'⟩ := (ht.keep hb).file hlt'
        have hc0 := BW.cell hc0
        have hc0' := BW.cell hc0'
        have hc1 := BW.cell hc1
        have hc1' := BW.cell hc1'
        by_cases he : xs[k] = ys[k]
        · have hd : decide (xs[k] = ys[k]) = true := decide_eq_true he
          have HE := Lib.hid he
          clear he
          go_wp2
          refine wp_region_bw (by kernel_rfl) (by kernel_rfl) ?_
          repeat (go_big_quiet_step ((go_at_call 116; exact Calls.bw (eq1_file xs[k] ys[k] _ _ _ (k1.bw _).rd (k1'.bw _).rd))))
          refine wpQuiet_nil ?_
          rintro w1 ⟨⟨_, hbw⟩, rfl⟩
          go_wp2
          go_roundw
          case rel => exact ⟨⟨k + 1, by omega, by go_num, eq_next HA.out hlt hlt' HE.out⟩, hb.trans (hbw.mono hb.size)⟩
          case measure => simp [intOf]; omega
        · have hd : decide (xs[k] = ys[k]) = false := decide_eq_false he
          have HE := Lib.hid he
          clear he
          go_wp2
          refine wp_region_bw (by kernel_rfl) (by kernel_rfl) ?_
          repeat (go_big_quiet_step ((go_at_call 116; exact Calls.bw (eq1_file xs[k] ys[k] _ _ _ (k1.bw _).rd (k1'.bw _).rd))))
          refine wpQuiet_nil ?_
          rintro w1 ⟨⟨_, hbw⟩, rfl⟩
          go_wp2
          go_ret
          exact ⟨ret_bool (by rw [eq_bad HA.out hlt hlt' HE.out]), hb.trans (hbw.mono hb.size)⟩
      · go_wp2
        go_ret
        exact ⟨ret_bool (by rw [eq_end HA.out hlt (by have := HN.out; omega)]), hb⟩
  · have hn2 : ((xs.length : Int) != ys.length) = true := by simp; omega
    go_enter Tryd.func103, Tryd.ntmps103
    go_wp2
    go_ret
    exact ⟨ret_bool (by symm; apply decide_eq_false; intro e; exact hn (by rw [e])), Below.refl _ _⟩
end Go.Proofs.YthhmaclhggmneaaDoor
namespace Go.Proofs.YthhmaclhggmneaaDoor
open Go.RowKit Go.Vc
open Go.Vc.Rep (rd)
open Go.Vc.Own (own)

abbrev bulk_I (xs : List Int) : Nat := xs.length
set_option maxHeartbeats 400000 in
theorem sz_I {S : Nat → Prop} (v : Value) (xs : List Int) (l : Int) (w : World) (hv : rd S w [v] xs) (hl0 : 0 ≤ l) (hl1 : l ≤ 1048576) :
    Calls Tryd.prog 92 #[v, .int .i64 l] w fun e w' => e = .returned (.int .i64 (sub l (bulk_I xs))) ∧ Below w.heap.size w w' := by
  obtain ⟨a, cap, rfl, hs⟩ := rd_slice_elim hv
  have hle := hs.le
  by_cases h0 : l - xs.length < 0
  · go_enter Tryd.func92, Tryd.ntmps92
    go_wp2
    go_ret
    exact ⟨ret_int (by rw [sub_bad' h0]), Below.refl _ _⟩
  · go_enter Tryd.func92, Tryd.ntmps92
    go_wp2
    go_ret
    exact ⟨ret_int (by unfold sub; rw [if_neg (by show ¬ l < (xs.length : Int); omega)]), Below.refl _ _⟩

set_option maxHeartbeats 400000 in
theorem eqIntS_any {S T : Nat → Prop} (v u : Value) (xs ys : List Int) (w : World) (hv : rd S w [v] xs) (hu : rd T w [u] ys) :
    Calls Tryd.prog 102 #[v, u] w fun e w' => e = .returned (.bool (decide (xs = ys))) ∧ ∃ n, w' = w.drewN n := by
  obtain ⟨a, cap, rfl, hs⟩ := rd_slice_elim hv
  obtain ⟨b, cbp, rfl, ht⟩ := rd_slice_elim hu
  have hle := hs.le
  have hle' := ht.le
  by_cases hn : xs.length = ys.length
  · have hn2 : ((xs.length : Int) != ys.length) = false := by simp [hn]
    have HN := Lib.hid hn
    clear hn
    go_enter Tryd.func102, Tryd.ntmps102
    go_wp2
    go_loopw [5] (fun i wr => (∃ k : Nat, k ≤ xs.length ∧ i = .int .i64 k ∧ Hid (decide (xs = ys) = decide (xs.drop k = ys.drop k))) ∧ ∃ n, wr = w.drewN n) (fun i _ => xs.length - (intOf i).toNat)
    case atStart => exact ⟨⟨0, by omega, rfl, rfl⟩, 0, rfl⟩
    case round =>
      obtain ⟨⟨k, hk, rfl, HA⟩, nw, rfl⟩ := hrel
      by_cases hlt : k < xs.length
      · have hlt' : k < ys.length := by rw [← HN.out]; exact hlt
        obtain ⟨g, off, rfl, hc, _⟩ := hs.int hlt
        obtain ⟨g', off', rfl, hc', _⟩ := ht.int hlt'
        by_cases he : xs[k] = ys[k]
        · have he2 : (xs[k] != ys[k]) = false := by simp [he]
          have HE := Lib.hid he
          clear he
          go_wp2
          go_quiet (fail)
          go_wp2
          go_roundw
          case rel => exact ⟨⟨k + 1, by omega, by go_num, eq_next HA.out hlt hlt' HE.out⟩, _, rfl⟩
          case measure => simp [intOf]; omega
        · have he2 : (xs[k] != ys[k]) = true := by simp [he]
          have HE := Lib.hid he
          clear he
          go_wp2
          go_quiet (fail)
          go_wp2
          go_ret
          exact ⟨ret_bool (by rw [eq_bad HA.out hlt hlt' HE.out]), drew_any⟩
      · go_wp2
        go_ret
        exact ⟨ret_bool (by rw [eq_end HA.out hlt (by have := HN.out; omega)]), _, rfl⟩
  · have hn2 : ((xs.length : Int) != ys.length) = true := by simp; omega
    go_enter Tryd.func102, Tryd.ntmps102
    go_wp2
    go_ret
    exact ⟨ret_bool (by symm; apply decide_eq_false; intro e; exact hn (by rw [e])), 0, rfl⟩
set_option maxHeartbeats 400000 in
theorem toIntS_any {S : Nat → Prop} (v : Value) (xs : List Int) (w : World) (hv : rd S w [v] xs) (hlen : xs.length ≤ 1048576) :
    Calls Tryd.prog 96 #[v] w fun e w' => ∃ v', e = .returned v' ∧ Fresh w.heap.size w'.heap.size w' [v'] xs ∧ Below w.heap.size w w' := by
  obtain ⟨a, cap, rfl, hs⟩ := rd_slice_elim (Rep.lt hv)
  have hmk := slz_int.make xs.length (by omega) (by unfold maxLen; omega)
  go_enter Tryd.func96, Tryd.ntmps96
  go_wp2
  clear hmk
  go_loopw [4] (fun i wr => (∃ k : Nat, k ≤ xs.length ∧ i = .int .i64 k ∧ Fresh w.heap.size wr.heap.size wr [.slice (some ⟨w.heap.size, 0, none⟩) xs.length xs.length] (fill xs (0 : Int) k)) ∧ Below w.heap.size w wr) (fun i _ => xs.length - (intOf i).toNat)
  case atStart => exact ⟨⟨0, by omega, rfl, by rw [fill_zero]; exact (Fresh.made slz_int.hz slz_int.pos _ _ (by unfold maxLen; omega) (Nat.le_refl _)).now⟩, (Below.refl _ _).alloc (Nat.le_refl _) _⟩
  case round =>
    obtain ⟨⟨k, hk, rfl, hF⟩, hb⟩ := hrel
    by_cases hlt : k < xs.length
    · obtain ⟨g, off, rfl, hc, hsz⟩ := (hs.keep hb).int hlt
      obtain ⟨⟨u, hu⟩, hfz, _, _⟩ := hF.there1 rfl (i := k) (by rw [fill_len _ _ _ hk]; exact hlt)
      go_wp2
      go_roundw
      case rel => exact ⟨⟨k + 1, by omega, by go_num, by have := hF.set1 rfl (by rw [fill_len _ _ _ hk]; exact hlt) (Fresh.leaf (m := wr.heap.size) ⟨rfl, rfl, hsz⟩) hb.size; rw [fill_next _ _ _ hlt] at this; exact this⟩, hb.setCell (Nat.le_refl _) _⟩
      case measure => simp [intOf]; omega
    · go_wp2
      go_ret
      exact ⟨_, rfl, by have := hF.now; rw [fill_all _ _ _ hlt] at this; exact this, hb⟩
theorem to_I {S : Nat → Prop} (v : Value) (xs : List Int) (w : World) (hv : rd S w [v] xs) (hlen : bulk_I xs ≤ 1048576) :
    Calls Tryd.prog 96 #[v] w fun e w' => ∃ v', e = .returned v' ∧ Fresh w.heap.size w'.heap.size w' [v'] xs ∧ Below w.heap.size w w' := toIntS_any v xs w hv hlen
theorem eq_I {S T : Nat → Prop} (v u : Value) (xs ys : List Int) (w : World) (hv : rd S w [v] xs) (hu : rd T w [u] ys) :
    Calls Tryd.prog 102 #[v, u] w fun e w' => e = .returned (.bool (decide (xs = ys))) ∧ Below w.heap.size w w' :=
  (eqIntS_any v u xs ys w hv hu).mono fun _ _ ⟨h, n, e⟩ => ⟨h, e ▸ below_drewN (Below.refl _ _) n⟩
end Go.Proofs.YthhmaclhggmneaaDoor
