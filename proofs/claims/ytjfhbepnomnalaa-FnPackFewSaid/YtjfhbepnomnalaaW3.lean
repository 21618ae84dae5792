/-
  Walks: []Delta.
-/
import Derived.Test.YtjfhbepnomnalaaW2
import Derived.Test.YtjfhbepnomnalaaTypesD
namespace Go.Proofs.Ytjfhbepnomnalaa
open Go.RowKit Go.Vc
open Go.Vc.Rep (rd)
open Go.Vc.Own (own)

/-- a Delta as a value -/
abbrev dval (f m : Int) (v : Value) : Value := .agg #[.int .i64 f, .int .i64 m, v]
def bulkD (d : Delta) : Nat := bulkS d.lines

set_option maxHeartbeats 400000 in
theorem szDelta_any {S : Nat → Prop} (d : Delta) (v : Value) (l : Int) (w : World) (hv : rd S w [v] d.lines) (hl0 : 0 ≤ l) (hl1 : l ≤ 1048576) :
    Calls Try.prog 57 #[.agg #[.int .i64 d.fr, .int .i64 d.many, v], .int .i64 l] w fun e w' => e = .returned (.int .i64 (sub l (bulkD d))) ∧ Below w.heap.size w w' := by
  unfold bulkD
  obtain ⟨a, cap, rfl, hs⟩ := rd_slice_elim hv
  go_enter Try.func57, Try.ntmps57
  go_wp2_with (go_at_call 20; refine (szStringS_any _ _ _ _ (hs.alloc _).rd hl0 hl1).mono ?_; rintro e w' ⟨rfl, rfl⟩)
  · go_ret
    exact ⟨ret_int (by rw [sub_neg1 (by assumption) hl0]), (Below.refl _ _).alloc (Nat.le_refl _) _⟩
  · go_ret
    exact ⟨rfl, (Below.refl _ _).alloc (Nat.le_refl _) _⟩

set_option maxHeartbeats 400000 in
theorem szDeltaS_any {S : Nat → Prop} (v : Value) (xs : List Delta) (l : Int) (w : World) (hv : rd S w [v] xs) (hl0 : 0 ≤ l) (hl1 : l ≤ 1048576) :
    Calls Try.prog 15 #[v, .int .i64 l] w fun e w' => e = .returned (.int .i64 (sub l (bulkL bulkD xs))) ∧ Below w.heap.size w w' := by
  obtain ⟨a, cap, rfl, hs⟩ := rd_slice_elim (Rep.lt hv)
  have hle := hs.le
  by_cases h0 : l - xs.length < 0
  · go_enter Try.func15, Try.ntmps15
    go_wp2
    go_ret
    exact ⟨ret_int (by rw [bulkL, sub_bad _ (by omega)]), Below.refl _ _⟩
  · go_enter Try.func15, Try.ntmps15
    go_wp2
    go_loopw [1, 5] (fun left i wr => (∃ (k : Nat) (m : Int), k ≤ xs.length ∧ i = .int .i64 k ∧ left = .int .i64 m ∧ 0 ≤ m ∧ m ≤ 1048576 ∧ Hid (sub l (bulkL bulkD xs) = sub m (bsum bulkD (xs.drop k)))) ∧ Below w.heap.size w wr) (fun _ i _ => xs.length - (intOf i).toNat)
    case atStart => exact ⟨⟨0, _, by omega, rfl, rfl, by omega, by omega, by show _ = _; rw [bulkL, sub_next _ (by omega)]; rfl⟩, Below.refl _ _⟩
    case round =>
      obtain ⟨⟨k, m, hk, rfl, rfl, hm0, hm1, HA⟩, hb⟩ := hrel
      by_cases hlt : k < xs.length
      · obtain ⟨g, off, b, n, rfl, hc0, hc1, hc2, _, _, hl⟩ := (hs.keep hb).delta hlt
        go_wp2_with (go_at_call 57; refine (szDelta_any xs[k] _ _ _ hl.rd hm0 hm1).mono ?_; rintro e w' ⟨rfl, hb1⟩)
        · have hn := sub_neg (by assumption) hm0
          go_ret
          exact ⟨ret_int (by rw [HA.out, bsum_drop _ _ _ hlt, sub_bad _ hn]), hb.trans (hb1.mono hb.size)⟩
        · have hp := sub_pos (by assumption)
          have hq := sub_le (bulkD xs[k]) hm0
          go_roundw
          case rel => exact ⟨⟨k + 1, _, by omega, by go_num, rfl, by assumption, by omega, by show _ = _; rw [HA.out, bsum_drop _ _ _ hlt, sub_next _ hp.1, hp.2]⟩, hb.trans (hb1.mono hb.size)⟩
          case measure => simp [intOf]; omega
      · go_wp2
        go_ret
        exact ⟨ret_int (by rw [HA.out, bsum_end _ _ _ hlt, sub_zero _ hm0]), hb⟩


set_option maxHeartbeats 400000 in
theorem toDelta_any {S : Nat → Prop} (d : Delta) (v : Value) (w : World) (hv : rd S w [v] d.lines) (hlen : d.lines.length ≤ 1048576) :
    Calls Try.prog 59 #[.agg #[.int .i64 d.fr, .int .i64 d.many, v]] w fun e w' => ∃ a c, e = .returned (.agg #[.int .i64 d.fr, .int .i64 d.many, .slice a d.lines.length c]) ∧ Fresh w.heap.size w'.heap.size w' [.slice a d.lines.length c] d.lines ∧ Below w.heap.size w w' := by
  obtain ⟨a, cap, rfl, hs⟩ := rd_slice_elim (Rep.lt hv)
  go_enter Try.func59, Try.ntmps59
  go_wp2_with fail
  refine (toStringS_any _ _ _ (((hs.alloc _).alloc _).alloc _).rd hlen).mono ?_
  rintro e w1 ⟨v', rfl, hF, hb1⟩
  obtain ⟨a', c', rfl, _⟩ := hF.shape
  obtain ⟨hc1, hf1⟩ := bcell hb1
  have hz : w.heap.size + 2 < w1.heap.size := by have := hb1.size; simp at this; omega
  go_wp2
  refine bodyPost_ret (v := .agg #[.int .i64 d.fr, .int .i64 d.many, .slice a' d.lines.length c']) (by simp [results, Try.results59, go_sem, hc1]) rfl ⟨a', c', rfl, ?_, ?_⟩
  · exact ((((hF.setCell (.inl (by simp))).setCell (.inl (by simp <;> omega))).setCell (.inl (by simp <;> omega))).setCell (.inl (by simp <;> omega))).now.mono (by simp <;> omega) (Nat.le_refl _)
  · exact (((((((((Below.refl _ _).alloc (by simp <;> omega) _).alloc (by simp <;> omega) _).alloc (by simp <;> omega) _).trans (hb1.mono (by simp <;> omega))).setCell (by simp <;> omega) _).setCell (by simp) _).setCell (by simp) _).setCell (by simp) _)

set_option maxHeartbeats 400000 in
theorem toDeltaS_any {S : Nat → Prop} (v : Value) (xs : List Delta) (w : World) (hv : rd S w [v] xs) (hlen : bulkL bulkD xs ≤ 1048576) :
    Calls Try.prog 17 #[v] w fun e w' => ∃ v', e = .returned v' ∧ Fresh w.heap.size w'.heap.size w' [v'] xs ∧ Below w.heap.size w w' := by
  obtain ⟨a, cap, rfl, hs⟩ := rd_slice_elim (Rep.lt hv)
  have hlen1 : xs.length ≤ 1048576 := by unfold bulkL at hlen; omega
  have hlen2 : ∀ k (h : k < xs.length), xs[k].lines.length ≤ 1048576 := fun k h => by
    have := bsum_at bulkD xs k h
    unfold bulkL at hlen
    have e : bulkD xs[k] = xs[k].lines.length + bsum ByteArray.size xs[k].lines := rfl
    omega
  have HL := Lib.hid hlen2
  clear hlen2
  have hmk := slz_delta.make xs.length (by omega) (by unfold maxLen; omega)
  go_enter Try.func17, Try.ntmps17
  go_wp2
  clear hmk
  go_loopw [4] (fun i wr => (∃ k : Nat, k ≤ xs.length ∧ i = .int .i64 k ∧ Fresh w.heap.size wr.heap.size wr [.slice (some ⟨w.heap.size, 0, none⟩) xs.length xs.length] (fill xs (Zr.zr : Delta) k)) ∧ Below w.heap.size w wr) (fun i _ => xs.length - (intOf i).toNat)
  case atStart => exact ⟨⟨0, by omega, rfl, by rw [fill_zero]; exact (Fresh.made slz_delta.hz slz_delta.pos _ _ (by unfold maxLen; omega) (Nat.le_refl _)).now⟩, (Below.refl _ _).alloc (Nat.le_refl _) _⟩
  case round =>
    obtain ⟨⟨k, hk, rfl, hF⟩, hb⟩ := hrel
    by_cases hlt : k < xs.length
    · obtain ⟨g, off, b, n, rfl, hc0, hc1, hc2, hi1, hi2, hl⟩ := (hs.keep hb).delta hlt
      go_wp2_with fail
      refine (toDelta_any xs[k] _ _ hl.rd (HL.out k hlt)).mono ?_
      rintro e w1 ⟨a', c', rfl, hF1, hb1⟩
      have hF2 := hF.belowm (Nat.le_refl _) hb1
      obtain ⟨u0, u1, u2, hu0, hu1, hu2, hf0, hf1, hf2⟩ := hF2.cells3 rfl (i := k) (by rw [fill_len _ _ _ hk]; exact hlt)
      go_wp2
      go_roundw
      case rel => exact ⟨⟨k + 1, by omega, by go_num, by have := hF2.setN (by rw [fill_len _ _ _ hk]; exact hlt) (hF1.delta hi1 hi2) hb.size; rw [fill_next _ _ _ hlt] at this; exact this⟩, (((hb.trans (hb1.mono hb.size)).setCell (Nat.le_refl _) _).setCell (Nat.le_refl _) _).setCell (Nat.le_refl _) _⟩
      case measure => simp [intOf]; omega
    · go_wp2
      go_ret
      exact ⟨_, rfl, by have := hF.now; rw [fill_all _ _ _ hlt] at this; exact this, hb⟩

theorem eq_delta (d e : Delta) : d = e ↔ d.fr = e.fr ∧ d.many = e.many ∧ d.lines = e.lines := by
  cases d; cases e; simp

set_option maxHeartbeats 400000 in
theorem eqDelta_any {S T : Nat → Prop} (d e : Delta) (v u : Value) (w : World) (hv : rd S w [v] d.lines) (hu : rd T w [u] e.lines) :
    Calls Try.prog 61 #[.agg #[.int .i64 d.fr, .int .i64 d.many, v], .agg #[.int .i64 e.fr, .int .i64 e.many, u]] w fun r w' => r = .returned (.bool (decide (d = e))) ∧ Below w.heap.size w w' := by
  obtain ⟨a, cap, rfl, hs⟩ := rd_slice_elim hv
  obtain ⟨b, cbp, rfl, ht⟩ := rd_slice_elim hu
  by_cases h1 : d.fr = e.fr
  · have h1' : (d.fr != e.fr) = false := by simp [h1]
    by_cases h2 : d.many = e.many
    · have h2' : (d.many != e.many) = false := by simp [h2]
      have H : (decide (d = e)) = decide (d.lines = e.lines) := by rw [decide_eq_decide, eq_delta]; simp [h1, h2]
      have HH := Lib.hid H
      clear h1 h2 H
      go_enter Try.func61, Try.ntmps61
      go_wp2_with fail
      refine (eqStringS_any _ _ _ _ _ ((hs.alloc _).alloc _).rd ((ht.alloc _).alloc _).rd).mono ?_
      rintro r w' ⟨rfl, n, rfl⟩
      go_wp2
      · go_ret
        exact ⟨ret_bool (by rw [HH.out]; exact (bnot_t (by assumption)).symm), below_drewN (((Below.refl _ _).alloc (by simp <;> omega) _).alloc (by simp <;> omega) _) _⟩
      · go_ret
        exact ⟨ret_bool (by rw [HH.out]; exact (bnot_f (by assumption)).symm), below_drewN (((Below.refl _ _).alloc (by simp <;> omega) _).alloc (by simp <;> omega) _) _⟩
    · have h2' : (d.many != e.many) = true := by simp [h2]
      have H : (decide (d = e)) = false := decide_eq_false (by rw [eq_delta]; simp [h2])
      have HH := Lib.hid H
      clear h1 h2 H
      go_enter Try.func61, Try.ntmps61
      go_wp2
      go_ret
      exact ⟨ret_bool HH.out.symm, (((Below.refl _ _).alloc (by simp <;> omega) _).alloc (by simp <;> omega) _)⟩
  · have h1' : (d.fr != e.fr) = true := by simp [h1]
    have H : (decide (d = e)) = false := decide_eq_false (by rw [eq_delta]; simp [h1])
    have HH := Lib.hid H
    clear h1 H
    go_enter Try.func61, Try.ntmps61
    go_wp2
    go_ret
    exact ⟨ret_bool HH.out.symm, (((Below.refl _ _).alloc (by simp <;> omega) _).alloc (by simp <;> omega) _)⟩

set_option maxHeartbeats 400000 in
theorem eqDeltaS_any {S T : Nat → Prop} (v u : Value) (xs ys : List Delta) (w : World) (hv : rd S w [v] xs) (hu : rd T w [u] ys) :
    Calls Try.prog 19 #[v, u] w fun e w' => e = .returned (.bool (decide (xs = ys))) ∧ Below w.heap.size w w' := by
  obtain ⟨a, cap, rfl, hs⟩ := rd_slice_elim (Rep.lt hv)
  obtain ⟨b, cbp, rfl, ht⟩ := rd_slice_elim (Rep.lt hu)
  have hle := hs.le
  have hle' := ht.le
  by_cases hn : xs.length = ys.length
  · have hn2 : ((xs.length : Int) != ys.length) = false := by simp [hn]
    have HN := Lib.hid hn
    clear hn
    go_enter Try.func19, Try.ntmps19
    go_wp2
    go_loopw [5] (fun i wr => (∃ k : Nat, k ≤ xs.length ∧ i = .int .i64 k ∧ Hid (decide (xs = ys) = decide (xs.drop k = ys.drop k))) ∧ Below w.heap.size w wr) (fun i _ => xs.length - (intOf i).toNat)
    case atStart => exact ⟨⟨0, by omega, rfl, rfl⟩, Below.refl _ _⟩
    case round =>
      obtain ⟨⟨k, hk, rfl, HA⟩, hb⟩ := hrel
      by_cases hlt : k < xs.length
      · have hlt' : k < ys.length := by rw [← HN.out]; exact hlt
        obtain ⟨g, off, a1, n1, rfl, hc0, hc1, hc2, _, _, hl⟩ := (hs.keep hb).delta hlt
        obtain ⟨g', off', b1, n1', rfl, hc0', hc1', hc2', _, _, hl'⟩ := (ht.keep hb).delta hlt'
        have hc0 := BW.cell hc0
        have hc1 := BW.cell hc1
        have hc2 := BW.cell hc2
        have hc0' := BW.cell hc0'
        have hc1' := BW.cell hc1'
        have hc2' := BW.cell hc2'
        by_cases he : xs[k] = ys[k]
        · have hd : decide (xs[k] = ys[k]) = true := decide_eq_true he
          have HE := Lib.hid he
          clear he
          go_wp2
          refine wp_region_bw (by kernel_rfl) (by kernel_rfl) ?_
          repeat (go_big_quiet_step ((go_at_call 61; exact Calls.bw (eqDelta_any xs[k] ys[k] _ _ _ (hl.bw _).rd (hl'.bw _).rd))))
          refine wpQuiet_nil ?_
          rintro w1 ⟨⟨_, hbw⟩, rfl⟩
          go_wp2
          go_roundw
          case rel => exact ⟨⟨k + 1, by omega, by go_num, eq_next HA.out hlt hlt' HE.out⟩, hb.trans (hbw.mono hb.size)⟩
          case measure => simp [intOf]; omega
        · have hd : decide (xs[k] = ys[k]) = false := decide_eq_false he
          have HE := Lib.hid he
          clear he
          go_wp2
          refine wp_region_bw (by kernel_rfl) (by kernel_rfl) ?_
          repeat (go_big_quiet_step ((go_at_call 61; exact Calls.bw (eqDelta_any xs[k] ys[k] _ _ _ (hl.bw _).rd (hl'.bw _).rd))))
          refine wpQuiet_nil ?_
          rintro w1 ⟨⟨_, hbw⟩, rfl⟩
          go_wp2
          go_ret
          exact ⟨ret_bool (by rw [eq_bad HA.out hlt hlt' HE.out]), hb.trans (hbw.mono hb.size)⟩
      · go_wp2
        go_ret
        exact ⟨ret_bool (by rw [eq_end HA.out hlt (by have := HN.out; omega)]), hb⟩
  · have hn2 : ((xs.length : Int) != ys.length) = true := by simp; omega
    go_enter Try.func19, Try.ntmps19
    go_wp2
    go_ret
    exact ⟨ret_bool (by symm; apply decide_eq_false; intro e; exact hn (by rw [e])), Below.refl _ _⟩
end Go.Proofs.Ytjfhbepnomnalaa
