/-
  Walks: the laws' own helpers on Commit: what it takes of a budget, copies, whether two are one. / Walks: the laws' own helpers on Head: what it takes of a budget, copies, whether two are one. / Walks: the laws' own helpers on Repo: what it takes of a budget, copies, whether two are one.
-/
import Derived.Test.YthhmaclhggmneaaDoorVC
import Derived.Test.YthhmaclhggmneaaDoorVD
set_option linter.unusedVariables false
namespace Go.Proofs.YthhmaclhggmneaaDoor
open Go.RowKit Go.Vc
open Go.Vc.Rep (rd)
open Go.Vc.Own (own)

def bulk1_commit (d : Commit) : Nat := bulk_I d.parents + d.who.size + bulk_F d.tree
set_option maxHeartbeats 1000000 in
theorem sz1_commit {S : Nat → Prop} (d : Commit) (v0 : Value) (v2 : Value) (l : Int) (w : World) (hv0 : rd S w [v0] d.parents) (hs1 : d.who.size ≤ maxLen) (hv2 : rd S w [v2] d.tree) (hl0 : 0 ≤ l) (hl1 : l ≤ 1048576) :
    Calls Tryd.prog 58 #[.agg #[v0, .string d.who, v2], .int .i64 l] w fun e w' => e = .returned (.int .i64 (sub l (bulk1_commit d))) ∧ Below w.heap.size w w' := by
  have hv0 := Rep.lt hv0
  have hv2 := Rep.lt hv2
  unfold maxLen at hs1
  have HB := (Below.refl w.heap.size w).alloc (Nat.le_refl _) (.cells #[v0, .string d.who, v2] 91)
  have hv0 := Rep.keep hv0 HB
  have hv2 := Rep.keep hv2 HB
  go_enter Tryd.func58, Tryd.ntmps58
  go_wp2_with fail
  refine (sz_I _ d.parents _ _ hv0 (by omega) (by omega)).mono ?_
  rintro e w1 ⟨rfl, hb1⟩
  have hv2 := Rep.below hv2 (Nat.le_refl _) hb1
  have HB := HB.trans (hb1.mono HB.size)
  obtain ⟨hcl1, hfr1⟩ := bcell hb1
  by_cases h0 : sub l (bulk_I d.parents) < 0
  · have hq := sub_facts' (by omega) h0
    go_wp2
    go_ret
    exact ⟨ret_int (by rw [sub_lt (l := l) (n := bulk1_commit d) (by unfold bulk1_commit; omega)]), HB⟩
  · obtain ⟨hq0, hp0, hr0⟩ := sub_facts (by omega) h0
    have HQ0 := Lib.hid hq0
    clear hq0
    by_cases h1 : (sub l (bulk_I d.parents)) - (d.who.size : Int) < 0
    · go_wp2
      go_ret
      exact ⟨ret_int (by rw [sub_lt (l := l) (n := bulk1_commit d) (by have e0 := HQ0.out; unfold bulk1_commit; omega)]), HB⟩
    · have hd1 : 0 ≤ (sub l (bulk_I d.parents)) - (d.who.size : Int) := by omega
      have he1 : decide ((sub l (bulk_I d.parents)) - (d.who.size : Int) < 0) = false := decide_eq_false h1
      go_wp2_with fail
      refine (sz_F _ d.tree _ _ hv2 (by omega) (by omega)).mono ?_
      rintro e w2 ⟨rfl, hb2⟩
      have HB := HB.trans (hb2.mono HB.size)
      obtain ⟨hcl2, hfr2⟩ := bcell hb2
      by_cases h2 : sub ((sub l (bulk_I d.parents)) - (d.who.size : Int)) (bulk_F d.tree) < 0
      · have hq := sub_facts' (by omega) h2
        go_wp2
        go_ret
        exact ⟨ret_int (by rw [sub_lt (l := l) (n := bulk1_commit d) (by have e0 := HQ0.out; unfold bulk1_commit; omega)]), HB⟩
      · obtain ⟨hq2, hp2, hr2⟩ := sub_facts (by omega) h2
        have HQ2 := Lib.hid hq2
        clear hq2
        go_wp2
        go_ret
        exact ⟨ret_int (by have e0 := HQ0.out; have e2 := HQ2.out; rw [sub_eq (l := l) (n := bulk1_commit d) (by unfold bulk1_commit; omega)]; unfold bulk1_commit; omega), HB⟩

set_option maxHeartbeats 1000000 in
theorem to1_commit {S : Nat → Prop} (d : Commit) (v0 : Value) (v2 : Value) (w : World) (hv0 : rd S w [v0] d.parents) (hv2 : rd S w [v2] d.tree) (hl0 : bulk_I d.parents ≤ 1048576) (hl2 : bulk_F d.tree ≤ 1048576) :
    Calls Tryd.prog 65 #[.agg #[v0, .string d.who, v2]] w fun e w' => ∃ a0 c0 a2 c2, ∃ m1, e = .returned (.agg #[.slice a0 d.parents.length c0, .string d.who, .slice a2 d.tree.length c2]) ∧ Fresh w.heap.size m1 w' [.slice a0 d.parents.length c0] d.parents ∧ Fresh m1 w'.heap.size w' [.slice a2 d.tree.length c2] d.tree ∧ w.heap.size ≤ m1 ∧ m1 ≤ w'.heap.size ∧ Below w.heap.size w w' := by
  have hv0 := Rep.lt hv0
  have hv2 := Rep.lt hv2
  go_enter Tryd.func65, Tryd.ntmps65
  go_wp2_with fail
  refine (to_I _ d.parents _ (Rep.alloc (Rep.alloc (Rep.alloc hv0 _) _) _) hl0).mono ?_
  rintro e w1 ⟨x0, rfl, hF0, hb1⟩
  obtain ⟨a0, c0, rfl, _⟩ := hF0.shape
  have hz : w.heap.size + 2 < w1.heap.size := by have := hb1.size; simp at this; omega
  have hza : w.heap.size + 1 < w1.heap.size := by omega
  have hzb : w.heap.size < w1.heap.size := by omega
  have HB1 := (((((Below.refl _ _).alloc (by simp <;> omega) _).alloc (by simp <;> omega) _).alloc (by simp <;> omega) _) : Below w.heap.size w _).trans (hb1.mono (by simp <;> omega))
  have hF0 := hF0.mono (B' := w.heap.size + 3) (by simp <;> omega) (Nat.le_refl _)
  obtain ⟨hc1, hf1⟩ := bcell hb1
  have hF0 := ((hF0.setCell (a := ⟨w.heap.size + 1 + 1, 0, none⟩) (u := .slice a0 d.parents.length c0) (.inl (by simp <;> omega))).setCell (a := ⟨w.heap.size + 1 + 1, 1, none⟩) (u := .string d.who) (.inl (by simp <;> omega)))
  have HB1 := ((HB1.setCell (by simp <;> omega) (p := ⟨w.heap.size + 1 + 1, 0, none⟩) (.slice a0 d.parents.length c0)).setCell (by simp <;> omega) (p := ⟨w.heap.size + 1 + 1, 1, none⟩) (.string d.who))
  go_wp2_with fail
  refine (to_F _ d.tree _ (Rep.keep hv2 HB1) hl2).mono ?_
  rintro e w2 ⟨x2, rfl, hF2, hb2⟩
  obtain ⟨a2, c2, rfl, _⟩ := hF2.shape
  have HB2 := HB1.trans (hb2.mono HB1.size)
  have hF0 := hF0.below (Nat.le_refl _) hb2
  have hz2 : w.heap.size + 2 < w2.heap.size := by have := hb2.size; simp at this; omega
  obtain ⟨hc2, hf2⟩ := bcell hb2
  go_wp2
  refine bodyPost_ret (v := .agg #[.slice a0 d.parents.length c0, .string d.who, .slice a2 d.tree.length c2]) (by simp [results, Tryd.results65, go_sem, hc1, hc2, hza]) rfl ⟨a0, c0, a2, c2, w1.heap.size, rfl, ?_, ?_, ?_, ?_, ?_⟩
  · exact ((((hF0.setCell (.inl (by simp <;> omega))).setCell (.inl (by simp <;> omega))).setCell (.inl (by simp <;> omega))).setCell (.inl (by simp <;> omega))).mono (by simp <;> omega) (by simp <;> omega)
  · exact ((((hF2.setCell (.inl (by simp <;> omega))).setCell (.inl (by simp <;> omega))).setCell (.inl (by simp <;> omega))).setCell (.inl (by simp <;> omega))).now.mono (by simp <;> omega) (Nat.le_refl _)
  · first | omega | (simp <;> omega)
  · have := hb2.size; simp at this ⊢; omega
  · exact ((((HB2.setCell (by simp <;> omega) _).setCell (by simp <;> omega) _).setCell (by simp <;> omega) _).setCell (by simp <;> omega) _)

set_option maxHeartbeats 1000000 in
theorem eq1_commit {S T : Nat → Prop} (d e : Commit) (v0 u0 : Value) (v2 u2 : Value) (w : World) (hv0 : rd S w [v0] d.parents) (hu0 : rd T w [u0] e.parents) (hv2 : rd S w [v2] d.tree) (hu2 : rd T w [u2] e.tree) :
    Calls Tryd.prog 72 #[.agg #[v0, .string d.who, v2], .agg #[u0, .string e.who, u2]] w fun r w' => r = .returned (.bool (decide (d = e))) ∧ Below w.heap.size w w' := by
  have HB := ((Below.refl w.heap.size w).alloc (Nat.le_refl _) (.cells #[v0, .string d.who, v2] 53)).alloc (by simp <;> omega) (.cells #[u0, .string e.who, u2] 53)
  have hv0 := Rep.keep (Rep.lt hv0) HB
  have hu0 := Rep.keep (Rep.lt hu0) HB
  have hv2 := Rep.keep (Rep.lt hv2) HB
  have hu2 := Rep.keep (Rep.lt hu2) HB
  go_enter Tryd.func72, Tryd.ntmps72
  go_wp2_with fail
  refine (eq_I _ _ _ _ _ hv0 hu0).mono ?_
  rintro r w1 ⟨rfl, hb1⟩
  have hv2 := Rep.below hv2 (Nat.le_refl _) hb1
  have hu2 := Rep.below hu2 (Nat.le_refl _) hb1
  have HB := HB.trans (hb1.mono HB.size)
  obtain ⟨hcl1, hfr1⟩ := bcell hb1
  by_cases h0 : d.parents = e.parents
  rotate_left
  · have H := Lib.hid (show decide (d = e) = false from decide_eq_false (by rw [eq_commit]; simp [h0]))
    have hd : decide (d.parents = e.parents) = false := decide_eq_false h0
    clear h0
    go_wp2
    go_ret
    exact ⟨ret_bool H.out.symm, HB⟩
  have K0 := Lib.hid h0
  have hd0 : decide (d.parents = e.parents) = true := decide_eq_true h0
  clear h0
  by_cases h1 : d.who = e.who
  rotate_left
  · have H := Lib.hid (show decide (d = e) = false from decide_eq_false (by rw [eq_commit]; simp [h1]))
    have hd : decide (d.who = e.who) = false := decide_eq_false h1
    clear h1
    go_wp2
    go_ret
    exact ⟨ret_bool H.out.symm, HB⟩
  have K1 := Lib.hid h1
  have hd1 : decide (d.who = e.who) = true := decide_eq_true h1
  clear h1
  go_wp2_with fail
  refine (eq_F _ _ _ _ _ hv2 hu2).mono ?_
  rintro r w2 ⟨rfl, hb2⟩
  have HB := HB.trans (hb2.mono HB.size)
  by_cases h2 : d.tree = e.tree
  rotate_left
  · have H := Lib.hid (show decide (d = e) = false from decide_eq_false (by rw [eq_commit]; simp [h2]))
    have hd : decide (d.tree = e.tree) = false := decide_eq_false h2
    clear h2
    go_wp2
    go_ret
    exact ⟨ret_bool H.out.symm, HB⟩
  have K2 := Lib.hid h2
  have hd2 : decide (d.tree = e.tree) = true := decide_eq_true h2
  clear h2
  go_wp2
  go_ret
  exact ⟨ret_bool (by symm; apply decide_eq_true; rw [eq_commit]; exact ⟨K0.out, K1.out, K2.out⟩), HB⟩

abbrev bulk_C (xs : List Commit) : Nat := bulkL bulk1_commit xs
set_option maxHeartbeats 1000000 in
theorem sz_C {S : Nat → Prop} (v : Value) (xs : List Commit) (l : Int) (w : World) (hv : rd S w [v] xs) (hl0 : 0 ≤ l) (hl1 : l ≤ 1048576) :
    Calls Tryd.prog 22 #[v, .int .i64 l] w fun e w' => e = .returned (.int .i64 (sub l (bulk_C xs))) ∧ Below w.heap.size w w' := by
  obtain ⟨a, cap, rfl, hs⟩ := rd_slice_elim (Rep.lt hv)
  have hle := hs.le
  by_cases h0 : l - xs.length < 0
  · go_enter Tryd.func22, Tryd.ntmps22
    go_wp2
    go_ret
    exact ⟨ret_int (by rw [bulk_C, bulkL, sub_bad _ (by omega)]), Below.refl _ _⟩
  · go_enter Tryd.func22, Tryd.ntmps22
    go_wp2
    go_loopw [1, 5] (fun left i wr => (∃ (k : Nat) (m : Int), k ≤ xs.length ∧ i = .int .i64 k ∧ left = .int .i64 m ∧ 0 ≤ m ∧ m ≤ 1048576 ∧ Hid (sub l (bulk_C xs) = sub m (bsum bulk1_commit (xs.drop k)))) ∧ Below w.heap.size w wr) (fun _ i _ => xs.length - (intOf i).toNat)
    case atStart => exact ⟨⟨0, _, by omega, rfl, rfl, by omega, by omega, by show _ = _; rw [bulk_C, bulkL, sub_next _ (by omega)]; rfl⟩, Below.refl _ _⟩
    case round =>
      obtain ⟨⟨k, m, hk, rfl, rfl, hm0, hm1, HA⟩, hb⟩ := hrel
      by_cases hlt : k < xs.length
      · obtain ⟨g, off, b0, n0, b2, n2, rfl, hc0, hc1, hc2, k0, k1, k2⟩ := (hs.keep hb).commit hlt
        go_wp2_with (go_at_call 58; refine (sz1_commit xs[k] _ _ _ _ k0.rd k1 k2.rd hm0 hm1).mono ?_; rintro e w' ⟨rfl, hb1⟩)
        · have hn := sub_neg (by assumption) hm0
          go_ret
          exact ⟨ret_int (by rw [HA.out, bsum_drop _ _ _ hlt, sub_bad _ hn]), hb.trans (hb1.mono hb.size)⟩
        · have hp := sub_pos (by assumption)
          have hq := sub_le (bulk1_commit xs[k]) hm0
          go_roundw
          case rel => exact ⟨⟨k + 1, _, by omega, by go_num, rfl, by assumption, by omega, by show _ = _; rw [HA.out, bsum_drop _ _ _ hlt, sub_next _ hp.1, hp.2]⟩, hb.trans (hb1.mono hb.size)⟩
          case measure => simp [intOf]; omega
      · go_wp2
        go_ret
        exact ⟨ret_int (by rw [HA.out, bsum_end _ _ _ hlt, sub_zero _ hm0]), hb⟩

set_option maxHeartbeats 1000000 in
theorem to_C {S : Nat → Prop} (v : Value) (xs : List Commit) (w : World) (hv : rd S w [v] xs) (hlen : bulk_C xs ≤ 1048576) :
    Calls Tryd.prog 28 #[v] w fun e w' => ∃ v', e = .returned v' ∧ Fresh w.heap.size w'.heap.size w' [v'] xs ∧ Below w.heap.size w w' := by
  obtain ⟨a, cap, rfl, hs⟩ := rd_slice_elim (Rep.lt hv)
  have hlen1 : xs.length ≤ 1048576 := by unfold bulk_C bulkL at hlen; omega
  have hlen2 : ∀ k (h : k < xs.length), bulk_I xs[k].parents ≤ 1048576 ∧ bulk_F xs[k].tree ≤ 1048576 := fun k h => by
    have := bsum_at bulk1_commit xs k h
    unfold bulk_C bulkL at hlen
    have e : bulk1_commit xs[k] = bulk_I xs[k].parents + xs[k].who.size + bulk_F xs[k].tree := rfl
    omega
  have HL := Lib.hid hlen2
  clear hlen2
  have hmk := slz_commit.make xs.length (by omega) (by unfold maxLen; omega)
  go_enter Tryd.func28, Tryd.ntmps28
  go_wp2
  clear hmk
  go_loopw [4] (fun i wr => (∃ k : Nat, k ≤ xs.length ∧ i = .int .i64 k ∧ Fresh w.heap.size wr.heap.size wr [.slice (some ⟨w.heap.size, 0, none⟩) xs.length xs.length] (fill xs (Zr.zr : Commit) k)) ∧ Below w.heap.size w wr) (fun i _ => xs.length - (intOf i).toNat)
  case atStart => exact ⟨⟨0, by omega, rfl, by rw [fill_zero]; exact (Fresh.made slz_commit.hz slz_commit.pos _ _ (by unfold maxLen; omega) (Nat.le_refl _)).now⟩, (Below.refl _ _).alloc (Nat.le_refl _) _⟩
  case round =>
    obtain ⟨⟨k, hk, rfl, hF⟩, hb⟩ := hrel
    by_cases hlt : k < xs.length
    · obtain ⟨g, off, b0, n0, b2, n2, rfl, hc0, hc1, hc2, k0, k1, k2⟩ := (hs.keep hb).commit hlt
      go_wp2_with fail
      refine (to1_commit xs[k] _ _ _ k0.rd k2.rd (HL.out k hlt).1 (HL.out k hlt).2).mono ?_
      rintro e w1 ⟨a0, c0, a2, c2, m1, rfl, hF0, hF2, o0, o1, hb1⟩
      have hNew := Fresh.commit (p := xs[k]) hF0 k1 hF2 o0 o1
      have hF2 := hF.belowm (Nat.le_refl _) hb1
      obtain ⟨u0, u1, u2, hu0, hu1, hu2, hf0, hf1, hf2⟩ := hF2.cells3 rfl (i := k) (by rw [fill_len _ _ _ hk]; exact hlt)
      go_wp2
      go_roundw
      case rel => exact ⟨⟨k + 1, by omega, by go_num, by have := hF2.setN (by rw [fill_len _ _ _ hk]; exact hlt) hNew hb.size; rw [fill_next _ _ _ hlt] at this; exact this⟩, (((hb.trans (hb1.mono hb.size)).setCell (Nat.le_refl _) _).setCell (Nat.le_refl _) _).setCell (Nat.le_refl _) _⟩
      case measure => simp [intOf]; omega
    · go_wp2
      go_ret
      exact ⟨_, rfl, by have := hF.now; rw [fill_all _ _ _ hlt] at this; exact this, hb⟩

set_option maxHeartbeats 1000000 in
theorem eq_C {S T : Nat → Prop} (v u : Value) (xs ys : List Commit) (w : World) (hv : rd S w [v] xs) (hu : rd T w [u] ys) :
    Calls Tryd.prog 35 #[v, u] w fun e w' => e = .returned (.bool (decide (xs = ys))) ∧ Below w.heap.size w w' := by
  obtain ⟨a, cap, rfl, hs⟩ := rd_slice_elim (Rep.lt hv)
  obtain ⟨b, cbp, rfl, ht⟩ := rd_slice_elim (Rep.lt hu)
  have hle := hs.le
  have hle' := ht.le
  by_cases hn : xs.length = ys.length
  · have hn2 : ((xs.length : Int) != ys.length) = false := by simp [hn]
    have HN := Lib.hid hn
    clear hn
    go_enter Tryd.func35, Tryd.ntmps35
    go_wp2
    go_loopw [5] (fun i wr => (∃ k : Nat, k ≤ xs.length ∧ i = .int .i64 k ∧ Hid (decide (xs = ys) = decide (xs.drop k = ys.drop k))) ∧ Below w.heap.size w wr) (fun i _ => xs.length - (intOf i).toNat)
    case atStart => exact ⟨⟨0, by omega, rfl, rfl⟩, Below.refl _ _⟩
    case round =>
      obtain ⟨⟨k, hk, rfl, HA⟩, hb⟩ := hrel
      by_cases hlt : k < xs.length
      · have hlt' : k < ys.length := by rw [← HN.out]; exact hlt
        obtain ⟨g, off, b0, n0, b2, n2, rfl, hc0, hc1, hc2, k0, k1, k2⟩ := (hs.keep hb).commit hlt
        obtain ⟨g', off', b0', n0', b2', n2', rfl, hc0', hc1', hc2', k0', k1', k2'⟩ := (ht.keep hb).commit hlt'
        have hc0 := BW.cell hc0
        have hc0' := BW.cell hc0'
        have hc1 := BW.cell hc1
        have hc1' := BW.cell hc1'
        have hc2 := BW.cell hc2
        have hc2' := BW.cell hc2'
        by_cases he : xs[k] = ys[k]
        · have hd : decide (xs[k] = ys[k]) = true := decide_eq_true he
          have HE := Lib.hid he
          clear he
          go_wp2
          refine wp_region_bw (by kernel_rfl) (by kernel_rfl) ?_
          repeat (go_big_quiet_step ((go_at_call 72; exact Calls.bw (eq1_commit xs[k] ys[k] _ _ _ _ _ (k0.bw _).rd (k0'.bw _).rd (k2.bw _).rd (k2'.bw _).rd))))
          refine wpQuiet_nil ?_
          rintro w1 ⟨⟨_, hbw⟩, rfl⟩
          go_wp2
          go_roundw
          case rel => exact ⟨⟨k + 1, by omega, by go_num, eq_next HA.out hlt hlt' HE.out⟩, hb.trans (hbw.mono hb.size)⟩
          case measure => simp [intOf]; omega
        · have hd : decide (xs[k] = ys[k]) = false := decide_eq_false he
          have HE := Lib.hid he
          clear he
          go_wp2
          refine wp_region_bw (by kernel_rfl) (by kernel_rfl) ?_
          repeat (go_big_quiet_step ((go_at_call 72; exact Calls.bw (eq1_commit xs[k] ys[k] _ _ _ _ _ (k0.bw _).rd (k0'.bw _).rd (k2.bw _).rd (k2'.bw _).rd))))
          refine wpQuiet_nil ?_
          rintro w1 ⟨⟨_, hbw⟩, rfl⟩
          go_wp2
          go_ret
          exact ⟨ret_bool (by rw [eq_bad HA.out hlt hlt' HE.out]), hb.trans (hbw.mono hb.size)⟩
      · go_wp2
        go_ret
        exact ⟨ret_bool (by rw [eq_end HA.out hlt (by have := HN.out; omega)]), hb⟩
  · have hn2 : ((xs.length : Int) != ys.length) = true := by simp; omega
    go_enter Tryd.func35, Tryd.ntmps35
    go_wp2
    go_ret
    exact ⟨ret_bool (by symm; apply decide_eq_false; intro e; exact hn (by rw [e])), Below.refl _ _⟩
end Go.Proofs.YthhmaclhggmneaaDoor
namespace Go.Proofs.YthhmaclhggmneaaDoor
open Go.RowKit Go.Vc
open Go.Vc.Rep (rd)
open Go.Vc.Own (own)

def bulk1_branch (d : Head) : Nat := d.name.size
set_option maxHeartbeats 1000000 in
theorem sz1_branch (d : Head)  (l : Int) (w : World) (hs0 : d.name.size ≤ maxLen) (hi1 : I64 d.at_) (hl0 : 0 ≤ l) (hl1 : l ≤ 1048576) :
    Calls Tryd.prog 59 #[.agg #[.string d.name, .int .i64 d.at_], .int .i64 l] w fun e w' => e = .returned (.int .i64 (sub l (bulk1_branch d))) ∧ Below w.heap.size w w' := by
  unfold maxLen at hs0
  have HB := (Below.refl w.heap.size w).alloc (Nat.le_refl _) (.cells #[.string d.name, .int .i64 d.at_] 93)
  go_enter Tryd.func59, Tryd.ntmps59
  by_cases h0 : l - (d.name.size : Int) < 0
  · go_wp2
    go_ret
    exact ⟨ret_int (by rw [sub_lt (l := l) (n := bulk1_branch d) (by unfold bulk1_branch; omega)]), HB⟩
  · have hd0 : 0 ≤ l - (d.name.size : Int) := by omega
    have he0 : decide (l - (d.name.size : Int) < 0) = false := decide_eq_false h0
    go_wp2
    go_ret
    exact ⟨ret_int (by rw [sub_eq (l := l) (n := bulk1_branch d) (by unfold bulk1_branch; omega)]; unfold bulk1_branch; omega), HB⟩

set_option maxHeartbeats 1000000 in
theorem to1_branch (d : Head) (w : World) :
    Calls Tryd.prog 66 #[.agg #[.string d.name, .int .i64 d.at_]] w fun e w' => e = .returned (.agg #[.string d.name, .int .i64 d.at_]) ∧ Below w.heap.size w w' := by
  go_enter Tryd.func66, Tryd.ntmps66
  go_wp2
  refine bodyPost_ret (v := .agg #[.string d.name, .int .i64 d.at_]) (by simp [results, Tryd.results66, go_sem]) rfl ⟨rfl, ?_⟩
  exact ((((Below.refl _ _).alloc (by simp <;> omega) _).alloc (by simp <;> omega) _).alloc (by simp <;> omega) _)

set_option maxHeartbeats 1000000 in
theorem eq1_branch (d e : Head)  (w : World)  :
    Calls Tryd.prog 73 #[.agg #[.string d.name, .int .i64 d.at_], .agg #[.string e.name, .int .i64 e.at_]] w fun r w' => r = .returned (.bool (decide (d = e))) ∧ Below w.heap.size w w' := by
  have HB := ((Below.refl w.heap.size w).alloc (Nat.le_refl _) (.cells #[.string d.name, .int .i64 d.at_] 57)).alloc (by simp <;> omega) (.cells #[.string e.name, .int .i64 e.at_] 57)
  go_enter Tryd.func73, Tryd.ntmps73
  by_cases h0 : d.name = e.name
  rotate_left
  · have H := Lib.hid (show decide (d = e) = false from decide_eq_false (by rw [eq_branch]; simp [h0]))
    have hd : decide (d.name = e.name) = false := decide_eq_false h0
    clear h0
    go_wp2
    go_ret
    exact ⟨ret_bool H.out.symm, HB⟩
  have K0 := Lib.hid h0
  have hd0 : decide (d.name = e.name) = true := decide_eq_true h0
  clear h0
  by_cases h1 : d.at_ = e.at_
  rotate_left
  · have H := Lib.hid (show decide (d = e) = false from decide_eq_false (by rw [eq_branch]; simp [h1]))
    have hd : (d.at_ != e.at_) = true := by simp [h1]
    clear h1
    go_wp2
    go_ret
    exact ⟨ret_bool H.out.symm, HB⟩
  have K1 := Lib.hid h1
  have hd1 : (d.at_ != e.at_) = false := by simp [h1]
  clear h1
  go_wp2
  go_ret
  exact ⟨ret_bool (by symm; apply decide_eq_true; rw [eq_branch]; exact ⟨K0.out, K1.out⟩), HB⟩

abbrev bulk_H (xs : List Head) : Nat := bulkL bulk1_branch xs
set_option maxHeartbeats 1000000 in
theorem sz_H {S : Nat → Prop} (v : Value) (xs : List Head) (l : Int) (w : World) (hv : rd S w [v] xs) (hl0 : 0 ≤ l) (hl1 : l ≤ 1048576) :
    Calls Tryd.prog 23 #[v, .int .i64 l] w fun e w' => e = .returned (.int .i64 (sub l (bulk_H xs))) ∧ Below w.heap.size w w' := by
  obtain ⟨a, cap, rfl, hs⟩ := rd_slice_elim (Rep.lt hv)
  have hle := hs.le
  by_cases h0 : l - xs.length < 0
  · go_enter Tryd.func23, Tryd.ntmps23
    go_wp2
    go_ret
    exact ⟨ret_int (by rw [bulk_H, bulkL, sub_bad _ (by omega)]), Below.refl _ _⟩
  · go_enter Tryd.func23, Tryd.ntmps23
    go_wp2
    go_loopw [1, 5] (fun left i wr => (∃ (k : Nat) (m : Int), k ≤ xs.length ∧ i = .int .i64 k ∧ left = .int .i64 m ∧ 0 ≤ m ∧ m ≤ 1048576 ∧ Hid (sub l (bulk_H xs) = sub m (bsum bulk1_branch (xs.drop k)))) ∧ Below w.heap.size w wr) (fun _ i _ => xs.length - (intOf i).toNat)
    case atStart => exact ⟨⟨0, _, by omega, rfl, rfl, by omega, by omega, by show _ = _; rw [bulk_H, bulkL, sub_next _ (by omega)]; rfl⟩, Below.refl _ _⟩
    case round =>
      obtain ⟨⟨k, m, hk, rfl, rfl, hm0, hm1, HA⟩, hb⟩ := hrel
      by_cases hlt : k < xs.length
      · obtain ⟨g, off, rfl, hc0, hc1, k0, k1⟩ := (hs.keep hb).branch hlt
        go_wp2_with (go_at_call 59; refine (sz1_branch xs[k]  _ _ k0 k1 hm0 hm1).mono ?_; rintro e w' ⟨rfl, hb1⟩)
        · have hn := sub_neg (by assumption) hm0
          go_ret
          exact ⟨ret_int (by rw [HA.out, bsum_drop _ _ _ hlt, sub_bad _ hn]), hb.trans (hb1.mono hb.size)⟩
        · have hp := sub_pos (by assumption)
          have hq := sub_le (bulk1_branch xs[k]) hm0
          go_roundw
          case rel => exact ⟨⟨k + 1, _, by omega, by go_num, rfl, by assumption, by omega, by show _ = _; rw [HA.out, bsum_drop _ _ _ hlt, sub_next _ hp.1, hp.2]⟩, hb.trans (hb1.mono hb.size)⟩
          case measure => simp [intOf]; omega
      · go_wp2
        go_ret
        exact ⟨ret_int (by rw [HA.out, bsum_end _ _ _ hlt, sub_zero _ hm0]), hb⟩

set_option maxHeartbeats 1000000 in
theorem to_H {S : Nat → Prop} (v : Value) (xs : List Head) (w : World) (hv : rd S w [v] xs) (hlen : bulk_H xs ≤ 1048576) :
    Calls Tryd.prog 29 #[v] w fun e w' => ∃ v', e = .returned v' ∧ Fresh w.heap.size w'.heap.size w' [v'] xs ∧ Below w.heap.size w w' := by
  obtain ⟨a, cap, rfl, hs⟩ := rd_slice_elim (Rep.lt hv)
  have hlen1 : xs.length ≤ 1048576 := by unfold bulk_H bulkL at hlen; omega
  have hmk := slz_branch.make xs.length (by omega) (by unfold maxLen; omega)
  go_enter Tryd.func29, Tryd.ntmps29
  go_wp2
  clear hmk
  go_loopw [4] (fun i wr => (∃ k : Nat, k ≤ xs.length ∧ i = .int .i64 k ∧ Fresh w.heap.size wr.heap.size wr [.slice (some ⟨w.heap.size, 0, none⟩) xs.length xs.length] (fill xs (Zr.zr : Head) k)) ∧ Below w.heap.size w wr) (fun i _ => xs.length - (intOf i).toNat)
  case atStart => exact ⟨⟨0, by omega, rfl, by rw [fill_zero]; exact (Fresh.made slz_branch.hz slz_branch.pos _ _ (by unfold maxLen; omega) (Nat.le_refl _)).now⟩, (Below.refl _ _).alloc (Nat.le_refl _) _⟩
  case round =>
    obtain ⟨⟨k, hk, rfl, hF⟩, hb⟩ := hrel
    by_cases hlt : k < xs.length
    · obtain ⟨g, off, rfl, hc0, hc1, k0, k1⟩ := (hs.keep hb).branch hlt
      go_wp2_with fail
      refine (to1_branch xs[k] _).mono ?_
      rintro e w1 ⟨rfl, hb1⟩
      have hNew : Fresh wr.heap.size w1.heap.size w1 [.string xs[k].name, .int .i64 xs[k].at_] xs[k] := Fresh.leaf (own_branch k0 k1)
      have hF2 := hF.belowm (Nat.le_refl _) hb1
      obtain ⟨u0, u1, hu0, hu1, hf0, hf1⟩ := hF2.cells2 rfl (i := k) (by rw [fill_len _ _ _ hk]; exact hlt)
      go_wp2
      go_roundw
      case rel => exact ⟨⟨k + 1, by omega, by go_num, by have := hF2.setN (by rw [fill_len _ _ _ hk]; exact hlt) hNew hb.size; rw [fill_next _ _ _ hlt] at this; exact this⟩, ((hb.trans (hb1.mono hb.size)).setCell (Nat.le_refl _) _).setCell (Nat.le_refl _) _⟩
      case measure => simp [intOf]; omega
    · go_wp2
      go_ret
      exact ⟨_, rfl, by have := hF.now; rw [fill_all _ _ _ hlt] at this; exact this, hb⟩

set_option maxHeartbeats 1000000 in
theorem eq_H {S T : Nat → Prop} (v u : Value) (xs ys : List Head) (w : World) (hv : rd S w [v] xs) (hu : rd T w [u] ys) :
    Calls Tryd.prog 36 #[v, u] w fun e w' => e = .returned (.bool (decide (xs = ys))) ∧ Below w.heap.size w w' := by
  obtain ⟨a, cap, rfl, hs⟩ := rd_slice_elim (Rep.lt hv)
  obtain ⟨b, cbp, rfl, ht⟩ := rd_slice_elim (Rep.lt hu)
  have hle := hs.le
  have hle' := ht.le
  by_cases hn : xs.length = ys.length
  · have hn2 : ((xs.length : Int) != ys.length) = false := by simp [hn]
    have HN := Lib.hid hn
    clear hn
    go_enter Tryd.func36, Tryd.ntmps36
    go_wp2
    go_loopw [5] (fun i wr => (∃ k : Nat, k ≤ xs.length ∧ i = .int .i64 k ∧ Hid (decide (xs = ys) = decide (xs.drop k = ys.drop k))) ∧ Below w.heap.size w wr) (fun i _ => xs.length - (intOf i).toNat)
    case atStart => exact ⟨⟨0, by omega, rfl, rfl⟩, Below.refl _ _⟩
    case round =>
      obtain ⟨⟨k, hk, rfl, HA⟩, hb⟩ := hrel
      by_cases hlt : k < xs.length
      · have hlt' : k < ys.length := by rw [← HN.out]; exact hlt
        obtain ⟨g, off, rfl, hc0, hc1, k0, k1⟩ := (hs.keep hb).branch hlt
        obtain ⟨g', off', rfl, hc0', hc1', k0', k1'⟩ := (ht.keep hb).branch hlt'
        have hc0 := BW.cell hc0
        have hc0' := BW.cell hc0'
        have hc1 := BW.cell hc1
        have hc1' := BW.cell hc1'
        by_cases he : xs[k] = ys[k]
        · have hd : decide (xs[k] = ys[k]) = true := decide_eq_true he
          have HE := Lib.hid he
          clear he
          go_wp2
          refine wp_region_bw (by kernel_rfl) (by kernel_rfl) ?_
          repeat (go_big_quiet_step ((go_at_call 73; exact Calls.bw (eq1_branch xs[k] ys[k]  _ ))))
          refine wpQuiet_nil ?_
          rintro w1 ⟨⟨_, hbw⟩, rfl⟩
          go_wp2
          go_roundw
          case rel => exact ⟨⟨k + 1, by omega, by go_num, eq_next HA.out hlt hlt' HE.out⟩, hb.trans (hbw.mono hb.size)⟩
          case measure => simp [intOf]; omega
        · have hd : decide (xs[k] = ys[k]) = false := decide_eq_false he
          have HE := Lib.hid he
          clear he
          go_wp2
          refine wp_region_bw (by kernel_rfl) (by kernel_rfl) ?_
          repeat (go_big_quiet_step ((go_at_call 73; exact Calls.bw (eq1_branch xs[k] ys[k]  _ ))))
          refine wpQuiet_nil ?_
          rintro w1 ⟨⟨_, hbw⟩, rfl⟩
          go_wp2
          go_ret
          exact ⟨ret_bool (by rw [eq_bad HA.out hlt hlt' HE.out]), hb.trans (hbw.mono hb.size)⟩
      · go_wp2
        go_ret
        exact ⟨ret_bool (by rw [eq_end HA.out hlt (by have := HN.out; omega)]), hb⟩
  · have hn2 : ((xs.length : Int) != ys.length) = true := by simp; omega
    go_enter Tryd.func36, Tryd.ntmps36
    go_wp2
    go_ret
    exact ⟨ret_bool (by symm; apply decide_eq_false; intro e; exact hn (by rw [e])), Below.refl _ _⟩
end Go.Proofs.YthhmaclhggmneaaDoor
namespace Go.Proofs.YthhmaclhggmneaaDoor
open Go.RowKit Go.Vc
open Go.Vc.Rep (rd)
open Go.Vc.Own (own)

def bulk1_repo (d : Repo) : Nat := bulk_C d.commits + bulk_H d.heads
set_option maxHeartbeats 1000000 in
theorem sz1_repo {S : Nat → Prop} (d : Repo) (v0 : Value) (v1 : Value) (l : Int) (w : World) (hv0 : rd S w [v0] d.commits) (hv1 : rd S w [v1] d.heads) (hl0 : 0 ≤ l) (hl1 : l ≤ 1048576) :
    Calls Tryd.prog 6 #[.agg #[v0, v1], .int .i64 l] w fun e w' => e = .returned (.int .i64 (sub l (bulk1_repo d))) ∧ Below w.heap.size w w' := by
  have hv0 := Rep.lt hv0
  have hv1 := Rep.lt hv1
  have HB := (Below.refl w.heap.size w).alloc (Nat.le_refl _) (.cells #[v0, v1] 25)
  have hv0 := Rep.keep hv0 HB
  have hv1 := Rep.keep hv1 HB
  go_enter Tryd.func6, Tryd.ntmps6
  go_wp2_with fail
  refine (sz_C _ d.commits _ _ hv0 (by omega) (by omega)).mono ?_
  rintro e w1 ⟨rfl, hb1⟩
  have hv1 := Rep.below hv1 (Nat.le_refl _) hb1
  have HB := HB.trans (hb1.mono HB.size)
  obtain ⟨hcl1, hfr1⟩ := bcell hb1
  by_cases h0 : sub l (bulk_C d.commits) < 0
  · have hq := sub_facts' (by omega) h0
    go_wp2
    go_ret
    exact ⟨ret_int (by rw [sub_lt (l := l) (n := bulk1_repo d) (by unfold bulk1_repo; omega)]), HB⟩
  · obtain ⟨hq0, hp0, hr0⟩ := sub_facts (by omega) h0
    have HQ0 := Lib.hid hq0
    clear hq0
    go_wp2_with fail
    refine (sz_H _ d.heads _ _ hv1 (by omega) (by omega)).mono ?_
    rintro e w2 ⟨rfl, hb2⟩
    have HB := HB.trans (hb2.mono HB.size)
    obtain ⟨hcl2, hfr2⟩ := bcell hb2
    by_cases h1 : sub (sub l (bulk_C d.commits)) (bulk_H d.heads) < 0
    · have hq := sub_facts' (by omega) h1
      go_wp2
      go_ret
      exact ⟨ret_int (by rw [sub_lt (l := l) (n := bulk1_repo d) (by have e0 := HQ0.out; unfold bulk1_repo; omega)]), HB⟩
    · obtain ⟨hq1, hp1, hr1⟩ := sub_facts (by omega) h1
      have HQ1 := Lib.hid hq1
      clear hq1
      go_wp2
      go_ret
      exact ⟨ret_int (by have e0 := HQ0.out; have e1 := HQ1.out; rw [sub_eq (l := l) (n := bulk1_repo d) (by unfold bulk1_repo; omega)]; unfold bulk1_repo; omega), HB⟩

set_option maxHeartbeats 1000000 in
theorem to1_repo {S : Nat → Prop} (d : Repo) (v0 : Value) (v1 : Value) (w : World) (hv0 : rd S w [v0] d.commits) (hv1 : rd S w [v1] d.heads) (hl0 : bulk_C d.commits ≤ 1048576) (hl1 : bulk_H d.heads ≤ 1048576) :
    Calls Tryd.prog 8 #[.agg #[v0, v1]] w fun e w' => ∃ a0 c0 a1 c1, ∃ m1, e = .returned (.agg #[.slice a0 d.commits.length c0, .slice a1 d.heads.length c1]) ∧ Fresh w.heap.size m1 w' [.slice a0 d.commits.length c0] d.commits ∧ Fresh m1 w'.heap.size w' [.slice a1 d.heads.length c1] d.heads ∧ w.heap.size ≤ m1 ∧ m1 ≤ w'.heap.size ∧ Below w.heap.size w w' := by
  have hv0 := Rep.lt hv0
  have hv1 := Rep.lt hv1
  go_enter Tryd.func8, Tryd.ntmps8
  go_wp2_with fail
  refine (to_C _ d.commits _ (Rep.alloc (Rep.alloc (Rep.alloc hv0 _) _) _) hl0).mono ?_
  rintro e w1 ⟨x0, rfl, hF0, hb1⟩
  obtain ⟨a0, c0, rfl, _⟩ := hF0.shape
  have hz : w.heap.size + 2 < w1.heap.size := by have := hb1.size; simp at this; omega
  have hza : w.heap.size + 1 < w1.heap.size := by omega
  have hzb : w.heap.size < w1.heap.size := by omega
  have HB1 := (((((Below.refl _ _).alloc (by simp <;> omega) _).alloc (by simp <;> omega) _).alloc (by simp <;> omega) _) : Below w.heap.size w _).trans (hb1.mono (by simp <;> omega))
  have hF0 := hF0.mono (B' := w.heap.size + 3) (by simp <;> omega) (Nat.le_refl _)
  obtain ⟨hc1, hf1⟩ := bcell hb1
  have hF0 := (hF0.setCell (a := ⟨w.heap.size + 1 + 1, 0, none⟩) (u := .slice a0 d.commits.length c0) (.inl (by simp <;> omega)))
  have HB1 := (HB1.setCell (by simp <;> omega) (p := ⟨w.heap.size + 1 + 1, 0, none⟩) (.slice a0 d.commits.length c0))
  go_wp2_with fail
  refine (to_H _ d.heads _ (Rep.keep hv1 HB1) hl1).mono ?_
  rintro e w2 ⟨x1, rfl, hF1, hb2⟩
  obtain ⟨a1, c1, rfl, _⟩ := hF1.shape
  have HB2 := HB1.trans (hb2.mono HB1.size)
  have hF0 := hF0.below (Nat.le_refl _) hb2
  have hz2 : w.heap.size + 2 < w2.heap.size := by have := hb2.size; simp at this; omega
  obtain ⟨hc2, hf2⟩ := bcell hb2
  go_wp2
  refine bodyPost_ret (v := .agg #[.slice a0 d.commits.length c0, .slice a1 d.heads.length c1]) (by simp [results, Tryd.results8, go_sem, hc1, hc2, hza]) rfl ⟨a0, c0, a1, c1, w1.heap.size, rfl, ?_, ?_, ?_, ?_, ?_⟩
  · exact (((hF0.setCell (.inl (by simp <;> omega))).setCell (.inl (by simp <;> omega))).setCell (.inl (by simp <;> omega))).mono (by simp <;> omega) (by simp <;> omega)
  · exact (((hF1.setCell (.inl (by simp <;> omega))).setCell (.inl (by simp <;> omega))).setCell (.inl (by simp <;> omega))).now.mono (by simp <;> omega) (Nat.le_refl _)
  · first | omega | (simp <;> omega)
  · have := hb2.size; simp at this ⊢; omega
  · exact (((HB2.setCell (by simp <;> omega) _).setCell (by simp <;> omega) _).setCell (by simp <;> omega) _)

set_option maxHeartbeats 1000000 in
theorem eq1_repo {S T : Nat → Prop} (d e : Repo) (v0 u0 : Value) (v1 u1 : Value) (w : World) (hv0 : rd S w [v0] d.commits) (hu0 : rd T w [u0] e.commits) (hv1 : rd S w [v1] d.heads) (hu1 : rd T w [u1] e.heads) :
    Calls Tryd.prog 10 #[.agg #[v0, v1], .agg #[u0, u1]] w fun r w' => r = .returned (.bool (decide (d = e))) ∧ Below w.heap.size w w' := by
  have HB := ((Below.refl w.heap.size w).alloc (Nat.le_refl _) (.cells #[v0, v1] 30)).alloc (by simp <;> omega) (.cells #[u0, u1] 30)
  have hv0 := Rep.keep (Rep.lt hv0) HB
  have hu0 := Rep.keep (Rep.lt hu0) HB
  have hv1 := Rep.keep (Rep.lt hv1) HB
  have hu1 := Rep.keep (Rep.lt hu1) HB
  go_enter Tryd.func10, Tryd.ntmps10
  go_wp2_with fail
  refine (eq_C _ _ _ _ _ hv0 hu0).mono ?_
  rintro r w1 ⟨rfl, hb1⟩
  have hv1 := Rep.below hv1 (Nat.le_refl _) hb1
  have hu1 := Rep.below hu1 (Nat.le_refl _) hb1
  have HB := HB.trans (hb1.mono HB.size)
  obtain ⟨hcl1, hfr1⟩ := bcell hb1
  by_cases h0 : d.commits = e.commits
  rotate_left
  · have H := Lib.hid (show decide (d = e) = false from decide_eq_false (by rw [eq_repo]; simp [h0]))
    have hd : decide (d.commits = e.commits) = false := decide_eq_false h0
    clear h0
    go_wp2
    go_ret
    exact ⟨ret_bool H.out.symm, HB⟩
  have K0 := Lib.hid h0
  have hd0 : decide (d.commits = e.commits) = true := decide_eq_true h0
  clear h0
  go_wp2_with fail
  refine (eq_H _ _ _ _ _ hv1 hu1).mono ?_
  rintro r w2 ⟨rfl, hb2⟩
  have HB := HB.trans (hb2.mono HB.size)
  by_cases h1 : d.heads = e.heads
  rotate_left
  · have H := Lib.hid (show decide (d = e) = false from decide_eq_false (by rw [eq_repo]; simp [h1]))
    have hd : decide (d.heads = e.heads) = false := decide_eq_false h1
    clear h1
    go_wp2
    go_ret
    exact ⟨ret_bool H.out.symm, HB⟩
  have K1 := Lib.hid h1
  have hd1 : decide (d.heads = e.heads) = true := decide_eq_true h1
  clear h1
  go_wp2
  go_ret
  exact ⟨ret_bool (by symm; apply decide_eq_true; rw [eq_repo]; exact ⟨K0.out, K1.out⟩), HB⟩
end Go.Proofs.YthhmaclhggmneaaDoor
