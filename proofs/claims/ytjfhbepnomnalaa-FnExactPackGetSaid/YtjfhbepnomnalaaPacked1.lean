/-
  Walks: the laws' own helpers on Packed: what it takes of a budget, copies, whether two are one.
-/
import Derived.Test.YtjfhbepnomnalaaPacked0
import Derived.Test.YtjfhbepnomnalaaHlp
import Derived.Test.YtjfhbepnomnalaaExD
set_option linter.unusedVariables false
namespace Go.Proofs.Ytjfhbepnomnalaa
open Go.RowKit Go.Vc
open Go.Vc.Rep (rd)
open Go.Vc.Own (own)

def bulk1_packed (d : Packed) : Nat := bulk_D d.pcs
set_option maxHeartbeats 1000000 in
theorem sz1_packed {S : Nat → Prop} (d : Packed) (v1 : Value) (l : Int) (w : World) (hi0 : I64 d.base) (hv1 : rd S w [v1] d.pcs) (hl0 : 0 ≤ l) (hl1 : l ≤ 1048576) :
    Calls Try.prog 74 #[.agg #[.int .i64 d.base, v1], .int .i64 l] w fun e w' => e = .returned (.int .i64 (sub l (bulk1_packed d))) ∧ Below w.heap.size w w' := by
  have hv1 := Rep.lt hv1
  have HB := (Below.refl w.heap.size w).alloc (Nat.le_refl _) (.cells #[.int .i64 d.base, v1] 86)
  have hv1 := Rep.keep hv1 HB
  go_enter Try.func74, Try.ntmps74
  go_wp2_with fail
  refine (sz_D _ d.pcs _ _ hv1 (by omega) (by omega)).mono ?_
  rintro e w1 ⟨rfl, hb1⟩
  have HB := HB.trans (hb1.mono HB.size)
  by_cases h1 : sub l (bulk_D d.pcs) < 0
  · have hq := sub_facts' (by omega) h1
    go_wp2
    go_ret
    exact ⟨ret_int (by rw [sub_lt (l := l) (n := bulk1_packed d) (by unfold bulk1_packed; omega)]), HB⟩
  · obtain ⟨hq1, hp1, hr1⟩ := sub_facts (by omega) h1
    have HQ1 := Lib.hid hq1
    clear hq1
    go_wp2
    go_ret
    exact ⟨ret_int (by have e1 := HQ1.out; rw [sub_eq (l := l) (n := bulk1_packed d) (by unfold bulk1_packed; omega)]; unfold bulk1_packed; omega), HB⟩

set_option maxHeartbeats 1000000 in
theorem to1_packed {S : Nat → Prop} (d : Packed) (v1 : Value) (w : World) (hv1 : rd S w [v1] d.pcs) (hl1 : bulk_D d.pcs ≤ 1048576) :
    Calls Try.prog 76 #[.agg #[.int .i64 d.base, v1]] w fun e w' => ∃ a1 c1, e = .returned (.agg #[.int .i64 d.base, .slice a1 d.pcs.length c1]) ∧ Fresh w.heap.size w'.heap.size w' [.slice a1 d.pcs.length c1] d.pcs ∧ Below w.heap.size w w' := by
  have hv1 := Rep.lt hv1
  go_enter Try.func76, Try.ntmps76
  go_wp2_with fail
  refine (to_D _ d.pcs _ (Rep.alloc (Rep.alloc (Rep.alloc hv1 _) _) _) hl1).mono ?_
  rintro e w1 ⟨x1, rfl, hF1, hb1⟩
  obtain ⟨a1, c1, rfl, _⟩ := hF1.shape
  have hz : w.heap.size + 2 < w1.heap.size := by have := hb1.size; simp at this; omega
  have HB1 := (((((Below.refl _ _).alloc (by simp <;> omega) _).alloc (by simp <;> omega) _).alloc (by simp <;> omega) _) : Below w.heap.size w _).trans (hb1.mono (by simp <;> omega))
  have hF1 := hF1.mono (B' := w.heap.size + 3) (by simp <;> omega) (Nat.le_refl _)
  obtain ⟨hc1, hf1⟩ := bcell hb1
  go_wp2
  refine bodyPost_ret (v := .agg #[.int .i64 d.base, .slice a1 d.pcs.length c1]) (by simp [results, Try.results76, go_sem, hc1]) rfl ⟨a1, c1, rfl, ?_, ?_⟩
  · exact (((hF1.setCell (.inl (by simp <;> omega))).setCell (.inl (by simp <;> omega))).setCell (.inl (by simp <;> omega))).now.mono (by simp <;> omega) (Nat.le_refl _)
  · exact (((HB1.setCell (by simp <;> omega) _).setCell (by simp <;> omega) _).setCell (by simp <;> omega) _)

set_option maxHeartbeats 1000000 in
theorem eq1_packed {S T : Nat → Prop} (d e : Packed) (v1 u1 : Value) (w : World) (hv1 : rd S w [v1] d.pcs) (hu1 : rd T w [u1] e.pcs) :
    Calls Try.prog 78 #[.agg #[.int .i64 d.base, v1], .agg #[.int .i64 e.base, u1]] w fun r w' => r = .returned (.bool (decide (d = e))) ∧ Below w.heap.size w w' := by
  have HB := ((Below.refl w.heap.size w).alloc (Nat.le_refl _) (.cells #[.int .i64 d.base, v1] 58)).alloc (by simp <;> omega) (.cells #[.int .i64 e.base, u1] 58)
  have hv1 := Rep.keep (Rep.lt hv1) HB
  have hu1 := Rep.keep (Rep.lt hu1) HB
  go_enter Try.func78, Try.ntmps78
  by_cases h0 : d.base = e.base
  rotate_left
  · have H := Lib.hid (show decide (d = e) = false from decide_eq_false (by rw [eq_packed]; simp [h0]))
    have hd : (d.base != e.base) = true := by simp [h0]
    clear h0
    go_wp2
    go_ret
    exact ⟨ret_bool H.out.symm, HB⟩
  have K0 := Lib.hid h0
  have hd0 : (d.base != e.base) = false := by simp [h0]
  clear h0
  go_wp2_with fail
  refine (eq_D _ _ _ _ _ hv1 hu1).mono ?_
  rintro r w1 ⟨rfl, hb1⟩
  have HB := HB.trans (hb1.mono HB.size)
  by_cases h1 : d.pcs = e.pcs
  rotate_left
  · have H := Lib.hid (show decide (d = e) = false from decide_eq_false (by rw [eq_packed]; simp [h1]))
    have hd : decide (d.pcs = e.pcs) = false := decide_eq_false h1
    clear h1
    go_wp2
    go_ret
    exact ⟨ret_bool H.out.symm, HB⟩
  have K1 := Lib.hid h1
  have hd1 : decide (d.pcs = e.pcs) = true := decide_eq_true h1
  clear h1
  go_wp2
  go_ret
  exact ⟨ret_bool (by symm; apply decide_eq_true; rw [eq_packed]; exact ⟨K0.out, K1.out⟩), HB⟩

abbrev bulk_P (xs : List Packed) : Nat := bulkL bulk1_packed xs
set_option maxHeartbeats 1000000 in
theorem sz_P {S : Nat → Prop} (v : Value) (xs : List Packed) (l : Int) (w : World) (hv : rd S w [v] xs) (hl0 : 0 ≤ l) (hl1 : l ≤ 1048576) :
    Calls Try.prog 36 #[v, .int .i64 l] w fun e w' => e = .returned (.int .i64 (sub l (bulk_P xs))) ∧ Below w.heap.size w w' := by
  obtain ⟨a, cap, rfl, hs⟩ := rd_slice_elim (Rep.lt hv)
  have hle := hs.le
  by_cases h0 : l - xs.length < 0
  · go_enter Try.func36, Try.ntmps36
    go_wp2
    go_ret
    exact ⟨ret_int (by rw [bulk_P, bulkL, sub_bad _ (by omega)]), Below.refl _ _⟩
  · go_enter Try.func36, Try.ntmps36
    go_wp2
    go_loopw [1, 5] (fun left i wr => (∃ (k : Nat) (m : Int), k ≤ xs.length ∧ i = .int .i64 k ∧ left = .int .i64 m ∧ 0 ≤ m ∧ m ≤ 1048576 ∧ Hid (sub l (bulk_P xs) = sub m (bsum bulk1_packed (xs.drop k)))) ∧ Below w.heap.size w wr) (fun _ i _ => xs.length - (intOf i).toNat)
    case atStart => exact ⟨⟨0, _, by omega, rfl, rfl, by omega, by omega, by show _ = _; rw [bulk_P, bulkL, sub_next _ (by omega)]; rfl⟩, Below.refl _ _⟩
    case round =>
      obtain ⟨⟨k, m, hk, rfl, rfl, hm0, hm1, HA⟩, hb⟩ := hrel
      by_cases hlt : k < xs.length
      · obtain ⟨g, off, b1, n1, rfl, hc0, hc1, k0, k1⟩ := (hs.keep hb).packed hlt
        go_wp2_with (go_at_call 74; refine (sz1_packed xs[k] _ _ _ k0 k1.rd hm0 hm1).mono ?_; rintro e w' ⟨rfl, hb1⟩)
        · have hn := sub_neg (by assumption) hm0
          go_ret
          exact ⟨ret_int (by rw [HA.out, bsum_drop _ _ _ hlt, sub_bad _ hn]), hb.trans (hb1.mono hb.size)⟩
        · have hp := sub_pos (by assumption)
          have hq := sub_le (bulk1_packed xs[k]) hm0
          go_roundw
          case rel => exact ⟨⟨k + 1, _, by omega, by go_num, rfl, by assumption, by omega, by show _ = _; rw [HA.out, bsum_drop _ _ _ hlt, sub_next _ hp.1, hp.2]⟩, hb.trans (hb1.mono hb.size)⟩
          case measure => simp [intOf]; omega
      · go_wp2
        go_ret
        exact ⟨ret_int (by rw [HA.out, bsum_end _ _ _ hlt, sub_zero _ hm0]), hb⟩

set_option maxHeartbeats 1000000 in
theorem to_P {S : Nat → Prop} (v : Value) (xs : List Packed) (w : World) (hv : rd S w [v] xs) (hlen : bulk_P xs ≤ 1048576) :
    Calls Try.prog 38 #[v] w fun e w' => ∃ v', e = .returned v' ∧ Fresh w.heap.size w'.heap.size w' [v'] xs ∧ Below w.heap.size w w' := by
  obtain ⟨a, cap, rfl, hs⟩ := rd_slice_elim (Rep.lt hv)
  have hlen1 : xs.length ≤ 1048576 := by unfold bulk_P bulkL at hlen; omega
  have hlen2 : ∀ k (h : k < xs.length), bulk_D xs[k].pcs ≤ 1048576 := fun k h => by
    have := bsum_at bulk1_packed xs k h
    unfold bulk_P bulkL at hlen
    have e : bulk1_packed xs[k] = bulk_D xs[k].pcs := rfl
    omega
  have HL := Lib.hid hlen2
  clear hlen2
  have hmk := slz_packed.make xs.length (by omega) (by unfold maxLen; omega)
  go_enter Try.func38, Try.ntmps38
  go_wp2
  clear hmk
  go_loopw [4] (fun i wr => (∃ k : Nat, k ≤ xs.length ∧ i = .int .i64 k ∧ Fresh w.heap.size wr.heap.size wr [.slice (some ⟨w.heap.size, 0, none⟩) xs.length xs.length] (fill xs (Zr.zr : Packed) k)) ∧ Below w.heap.size w wr) (fun i _ => xs.length - (intOf i).toNat)
  case atStart => exact ⟨⟨0, by omega, rfl, by rw [fill_zero]; exact (Fresh.made slz_packed.hz slz_packed.pos _ _ (by unfold maxLen; omega) (Nat.le_refl _)).now⟩, (Below.refl _ _).alloc (Nat.le_refl _) _⟩
  case round =>
    obtain ⟨⟨k, hk, rfl, hF⟩, hb⟩ := hrel
    by_cases hlt : k < xs.length
    · obtain ⟨g, off, b1, n1, rfl, hc0, hc1, k0, k1⟩ := (hs.keep hb).packed hlt
      go_wp2_with fail
      refine (to1_packed xs[k] _ _ k1.rd (HL.out k hlt)).mono ?_
      rintro e w1 ⟨a', c', rfl, hF1, hb1⟩
      have hNew := Fresh.packed (p := xs[k]) k0 hF1
      have hF2 := hF.belowm (Nat.le_refl _) hb1
      obtain ⟨u0, u1, hu0, hu1, hf0, hf1⟩ := hF2.cells2 rfl (i := k) (by rw [fill_len _ _ _ hk]; exact hlt)
      go_wp2
      go_roundw
      case rel => exact ⟨⟨k + 1, by omega, by go_num, by have := hF2.setN (by rw [fill_len _ _ _ hk]; exact hlt) hNew hb.size; rw [fill_next _ _ _ hlt] at this; exact this⟩, ((hb.trans (hb1.mono hb.size)).setCell (Nat.le_refl _) _).setCell (Nat.le_refl _) _⟩
      case measure => simp [intOf]; omega
    · go_wp2
      go_ret
      exact ⟨_, rfl, by have := hF.now; rw [fill_all _ _ _ hlt] at this; exact this, hb⟩

set_option maxHeartbeats 1000000 in
theorem eq_P {S T : Nat → Prop} (v u : Value) (xs ys : List Packed) (w : World) (hv : rd S w [v] xs) (hu : rd T w [u] ys) :
    Calls Try.prog 40 #[v, u] w fun e w' => e = .returned (.bool (decide (xs = ys))) ∧ Below w.heap.size w w' := by
  obtain ⟨a, cap, rfl, hs⟩ := rd_slice_elim (Rep.lt hv)
  obtain ⟨b, cbp, rfl, ht⟩ := rd_slice_elim (Rep.lt hu)
  have hle := hs.le
  have hle' := ht.le
  by_cases hn : xs.length = ys.length
  · have hn2 : ((xs.length : Int) != ys.length) = false := by simp [hn]
    have HN := Lib.hid hn
    clear hn
    go_enter Try.func40, Try.ntmps40
    go_wp2
    go_loopw [5] (fun i wr => (∃ k : Nat, k ≤ xs.length ∧ i = .int .i64 k ∧ Hid (decide (xs = ys) = decide (xs.drop k = ys.drop k))) ∧ Below w.heap.size w wr) (fun i _ => xs.length - (intOf i).toNat)
    case atStart => exact ⟨⟨0, by omega, rfl, rfl⟩, Below.refl _ _⟩
    case round =>
      obtain ⟨⟨k, hk, rfl, HA⟩, hb⟩ := hrel
      by_cases hlt : k < xs.length
      · have hlt' : k < ys.length := by rw [← HN.out]; exact hlt
        obtain ⟨g, off, b1, n1, rfl, hc0, hc1, k0, k1⟩ := (hs.keep hb).packed hlt
        obtain ⟨g', off', b1', n1', rfl, hc0', hc1', k0', k1'⟩ := (ht.keep hb).packed hlt'
        have hc0 := BW.cell hc0
        have hc0' := BW.cell hc0'
        have hc1 := BW.cell hc1
        have hc1' := BW.cell hc1'
        by_cases he : xs[k] = ys[k]
        · have hd : decide (xs[k] = ys[k]) = true := decide_eq_true he
          have HE := Lib.hid he
          clear he
          go_wp2
          refine wp_region_bw (by kernel_rfl) (by kernel_rfl) ?_
          repeat (go_big_quiet_step ((go_at_call 78; exact Calls.bw (eq1_packed xs[k] ys[k] _ _ _ (k1.bw _).rd (k1'.bw _).rd))))
          refine wpQuiet_nil ?_
          rintro w1 ⟨⟨_, hbw⟩, rfl⟩
          go_wp2
          go_roundw
          case rel => exact ⟨⟨k + 1, by omega, by go_num, eq_next HA.out hlt hlt' HE.out⟩, hb.trans (hbw.mono hb.size)⟩
          case measure => simp [intOf]; omega
        · have hd : decide (xs[k] = ys[k]) = false := decide_eq_false he
          have HE := Lib.hid he
          clear he
          go_wp2
          refine wp_region_bw (by kernel_rfl) (by kernel_rfl) ?_
          repeat (go_big_quiet_step ((go_at_call 78; exact Calls.bw (eq1_packed xs[k] ys[k] _ _ _ (k1.bw _).rd (k1'.bw _).rd))))
          refine wpQuiet_nil ?_
          rintro w1 ⟨⟨_, hbw⟩, rfl⟩
          go_wp2
          go_ret
          exact ⟨ret_bool (by rw [eq_bad HA.out hlt hlt' HE.out]), hb.trans (hbw.mono hb.size)⟩
      · go_wp2
        go_ret
        exact ⟨ret_bool (by rw [eq_end HA.out hlt (by have := HN.out; omega)]), hb⟩
  · have hn2 : ((xs.length : Int) != ys.length) = true := by simp; omega
    go_enter Try.func40, Try.ntmps40
    go_wp2
    go_ret
    exact ⟨ret_bool (by symm; apply decide_eq_false; intro e; exact hn (by rw [e])), Below.refl _ _⟩
end Go.Proofs.Ytjfhbepnomnalaa
