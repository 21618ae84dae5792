/-
  Walks: the laws' own helpers on Owner: what it takes of a budget, copies, whether two are one.
-/
import Derived.Test.YtlokkbllplhlbaaDoorOwner0
import Derived.Test.YtlokkbllplhlbaaDoorHlp
set_option linter.unusedVariables false
namespace Go.Proofs.YtlokkbllplhlbaaDoor
open Go.RowKit Go.Vc
open Go.Vc.Rep (rd)
open Go.Vc.Own (own)

def bulk1_owner (d : Owner) : Nat := d.path.size + d.who.size
set_option maxHeartbeats 1000000 in
theorem sz1_owner (d : Owner)  (l : Int) (w : World) (hs0 : d.path.size ≤ maxLen) (hs1 : d.who.size ≤ maxLen) (hl0 : 0 ≤ l) (hl1 : l ≤ 1048576) :
    Calls Tryd.prog 26 #[.agg #[.string d.path, .string d.who], .int .i64 l] w fun e w' => e = .returned (.int .i64 (sub l (bulk1_owner d))) ∧ Below w.heap.size w w' := by
  unfold maxLen at hs0
  unfold maxLen at hs1
  have HB := (Below.refl w.heap.size w).alloc (Nat.le_refl _) (.cells #[.string d.path, .string d.who] 47)
  go_enter Tryd.func26, Tryd.ntmps26
  by_cases h0 : l - (d.path.size : Int) < 0
  · go_wp2
    go_ret
    exact ⟨ret_int (by rw [sub_lt (l := l) (n := bulk1_owner d) (by unfold bulk1_owner; omega)]), HB⟩
  · have hd0 : 0 ≤ l - (d.path.size : Int) := by omega
    have he0 : decide (l - (d.path.size : Int) < 0) = false := decide_eq_false h0
    by_cases h1 : (l - (d.path.size : Int)) - (d.who.size : Int) < 0
    · go_wp2
      go_ret
      exact ⟨ret_int (by rw [sub_lt (l := l) (n := bulk1_owner d) (by unfold bulk1_owner; omega)]), HB⟩
    · have hd1 : 0 ≤ (l - (d.path.size : Int)) - (d.who.size : Int) := by omega
      have he1 : decide ((l - (d.path.size : Int)) - (d.who.size : Int) < 0) = false := decide_eq_false h1
      go_wp2
      go_ret
      exact ⟨ret_int (by rw [sub_eq (l := l) (n := bulk1_owner d) (by unfold bulk1_owner; omega)]; unfold bulk1_owner; omega), HB⟩

set_option maxHeartbeats 1000000 in
theorem to1_owner (d : Owner) (w : World) :
    Calls Tryd.prog 28 #[.agg #[.string d.path, .string d.who]] w fun e w' => e = .returned (.agg #[.string d.path, .string d.who]) ∧ Below w.heap.size w w' := by
  go_enter Tryd.func28, Tryd.ntmps28
  go_wp2
  refine bodyPost_ret (v := .agg #[.string d.path, .string d.who]) (by simp [results, Tryd.results28, go_sem]) rfl ⟨rfl, ?_⟩
  exact ((((Below.refl _ _).alloc (by simp <;> omega) _).alloc (by simp <;> omega) _).alloc (by simp <;> omega) _)

set_option maxHeartbeats 1000000 in
theorem eq1_owner (d e : Owner)  (w : World)  :
    Calls Tryd.prog 30 #[.agg #[.string d.path, .string d.who], .agg #[.string e.path, .string e.who]] w fun r w' => r = .returned (.bool (decide (d = e))) ∧ Below w.heap.size w w' := by
  have HB := ((Below.refl w.heap.size w).alloc (Nat.le_refl _) (.cells #[.string d.path, .string d.who] 35)).alloc (by simp <;> omega) (.cells #[.string e.path, .string e.who] 35)
  go_enter Tryd.func30, Tryd.ntmps30
  by_cases h0 : d.path = e.path
  rotate_left
  · have H := Lib.hid (show decide (d = e) = false from decide_eq_false (by rw [eq_owner]; simp [h0]))
    have hd : decide (d.path = e.path) = false := decide_eq_false h0
    clear h0
    go_wp2
    go_ret
    exact ⟨ret_bool H.out.symm, HB⟩
  have K0 := Lib.hid h0
  have hd0 : decide (d.path = e.path) = true := decide_eq_true h0
  clear h0
  by_cases h1 : d.who = e.who
  rotate_left
  · have H := Lib.hid (show decide (d = e) = false from decide_eq_false (by rw [eq_owner]; simp [h1]))
    have hd : decide (d.who = e.who) = false := decide_eq_false h1
    clear h1
    go_wp2
    go_ret
    exact ⟨ret_bool H.out.symm, HB⟩
  have K1 := Lib.hid h1
  have hd1 : decide (d.who = e.who) = true := decide_eq_true h1
  clear h1
  go_wp2
  go_ret
  exact ⟨ret_bool (by symm; apply decide_eq_true; rw [eq_owner]; exact ⟨K0.out, K1.out⟩), HB⟩

abbrev bulk_O (xs : List Owner) : Nat := bulkL bulk1_owner xs
set_option maxHeartbeats 1000000 in
theorem sz_O {S : Nat → Prop} (v : Value) (xs : List Owner) (l : Int) (w : World) (hv : rd S w [v] xs) (hl0 : 0 ≤ l) (hl1 : l ≤ 1048576) :
    Calls Tryd.prog 7 #[v, .int .i64 l] w fun e w' => e = .returned (.int .i64 (sub l (bulk_O xs))) ∧ Below w.heap.size w w' := by
  obtain ⟨a, cap, rfl, hs⟩ := rd_slice_elim (Rep.lt hv)
  have hle := hs.le
  by_cases h0 : l - xs.length < 0
  · go_enter Tryd.func7, Tryd.ntmps7
    go_wp2
    go_ret
    exact ⟨ret_int (by rw [bulk_O, bulkL, sub_bad _ (by omega)]), Below.refl _ _⟩
  · go_enter Tryd.func7, Tryd.ntmps7
    go_wp2
    go_loopw [1, 5] (fun left i wr => (∃ (k : Nat) (m : Int), k ≤ xs.length ∧ i = .int .i64 k ∧ left = .int .i64 m ∧ 0 ≤ m ∧ m ≤ 1048576 ∧ Hid (sub l (bulk_O xs) = sub m (bsum bulk1_owner (xs.drop k)))) ∧ Below w.heap.size w wr) (fun _ i _ => xs.length - (intOf i).toNat)
    case atStart => exact ⟨⟨0, _, by omega, rfl, rfl, by omega, by omega, by show _ = _; rw [bulk_O, bulkL, sub_next _ (by omega)]; rfl⟩, Below.refl _ _⟩
    case round =>
      obtain ⟨⟨k, m, hk, rfl, rfl, hm0, hm1, HA⟩, hb⟩ := hrel
      by_cases hlt : k < xs.length
      · obtain ⟨g, off, rfl, hc0, hc1, k0, k1⟩ := (hs.keep hb).owner hlt
        go_wp2_with (go_at_call 26; refine (sz1_owner xs[k]  _ _ k0 k1 hm0 hm1).mono ?_; rintro e w' ⟨rfl, hb1⟩)
        · have hn := sub_neg (by assumption) hm0
          go_ret
          exact ⟨ret_int (by rw [HA.out, bsum_drop _ _ _ hlt, sub_bad _ hn]), hb.trans (hb1.mono hb.size)⟩
        · have hp := sub_pos (by assumption)
          have hq := sub_le (bulk1_owner xs[k]) hm0
          go_roundw
          case rel => exact ⟨⟨k + 1, _, by omega, by go_num, rfl, by assumption, by omega, by show _ = _; rw [HA.out, bsum_drop _ _ _ hlt, sub_next _ hp.1, hp.2]⟩, hb.trans (hb1.mono hb.size)⟩
          case measure => simp [intOf]; omega
      · go_wp2
        go_ret
        exact ⟨ret_int (by rw [HA.out, bsum_end _ _ _ hlt, sub_zero _ hm0]), hb⟩

set_option maxHeartbeats 1000000 in
theorem to_O {S : Nat → Prop} (v : Value) (xs : List Owner) (w : World) (hv : rd S w [v] xs) (hlen : bulk_O xs ≤ 1048576) :
    Calls Tryd.prog 9 #[v] w fun e w' => ∃ v', e = .returned v' ∧ Fresh w.heap.size w'.heap.size w' [v'] xs ∧ Below w.heap.size w w' := by
  obtain ⟨a, cap, rfl, hs⟩ := rd_slice_elim (Rep.lt hv)
  have hlen1 : xs.length ≤ 1048576 := by unfold bulk_O bulkL at hlen; omega
  have hmk := slz_owner.make xs.length (by omega) (by unfold maxLen; omega)
  go_enter Tryd.func9, Tryd.ntmps9
  go_wp2
  clear hmk
  go_loopw [4] (fun i wr => (∃ k : Nat, k ≤ xs.length ∧ i = .int .i64 k ∧ Fresh w.heap.size wr.heap.size wr [.slice (some ⟨w.heap.size, 0, none⟩) xs.length xs.length] (fill xs (Zr.zr : Owner) k)) ∧ Below w.heap.size w wr) (fun i _ => xs.length - (intOf i).toNat)
  case atStart => exact ⟨⟨0, by omega, rfl, by rw [fill_zero]; exact (Fresh.made slz_owner.hz slz_owner.pos _ _ (by unfold maxLen; omega) (Nat.le_refl _)).now⟩, (Below.refl _ _).alloc (Nat.le_refl _) _⟩
  case round =>
    obtain ⟨⟨k, hk, rfl, hF⟩, hb⟩ := hrel
    by_cases hlt : k < xs.length
    · obtain ⟨g, off, rfl, hc0, hc1, k0, k1⟩ := (hs.keep hb).owner hlt
      go_wp2_with fail
      refine (to1_owner xs[k] _).mono ?_
      rintro e w1 ⟨rfl, hb1⟩
      have hNew : Fresh wr.heap.size w1.heap.size w1 [.string xs[k].path, .string xs[k].who] xs[k] := Fresh.leaf (own_owner k0 k1)
      have hF2 := hF.belowm (Nat.le_refl _) hb1
      obtain ⟨u0, u1, hu0, hu1, hf0, hf1⟩ := hF2.cells2 rfl (i := k) (by rw [fill_len _ _ _ hk]; exact hlt)
      go_wp2
      go_roundw
      case rel => exact ⟨⟨k + 1, by omega, by go_num, by have := hF2.setN (by rw [fill_len _ _ _ hk]; exact hlt) hNew hb.size; rw [fill_next _ _ _ hlt] at this; exact this⟩, ((hb.trans (hb1.mono hb.size)).setCell (Nat.le_refl _) _).setCell (Nat.le_refl _) _⟩
      case measure => simp [intOf]; omega
    · go_wp2
      go_ret
      exact ⟨_, rfl, by have := hF.now; rw [fill_all _ _ _ hlt] at this; exact this, hb⟩

set_option maxHeartbeats 1000000 in
theorem eq_O {S T : Nat → Prop} (v u : Value) (xs ys : List Owner) (w : World) (hv : rd S w [v] xs) (hu : rd T w [u] ys) :
    Calls Tryd.prog 11 #[v, u] w fun e w' => e = .returned (.bool (decide (xs = ys))) ∧ Below w.heap.size w w' := by
  obtain ⟨a, cap, rfl, hs⟩ := rd_slice_elim (Rep.lt hv)
  obtain ⟨b, cbp, rfl, ht⟩ := rd_slice_elim (Rep.lt hu)
  have hle := hs.le
  have hle' := ht.le
  by_cases hn : xs.length = ys.length
  · have hn2 : ((xs.length : Int) != ys.length) = false := by simp [hn]
    have HN := Lib.hid hn
    clear hn
    go_enter Tryd.func11, Tryd.ntmps11
    go_wp2
    go_loopw [5] (fun i wr => (∃ k : Nat, k ≤ xs.length ∧ i = .int .i64 k ∧ Hid (decide (xs = ys) = decide (xs.drop k = ys.drop k))) ∧ Below w.heap.size w wr) (fun i _ => xs.length - (intOf i).toNat)
    case atStart => exact ⟨⟨0, by omega, rfl, rfl⟩, Below.refl _ _⟩
    case round =>
      obtain ⟨⟨k, hk, rfl, HA⟩, hb⟩ := hrel
      by_cases hlt : k < xs.length
      · have hlt' : k < ys.length := by rw [← HN.out]; exact hlt
        obtain ⟨g, off, rfl, hc0, hc1, k0, k1⟩ := (hs.keep hb).owner hlt
        obtain ⟨g', off', rfl, hc0', hc1', k0', k1'⟩ := (ht.keep hb).owner hlt'
        have hc0 := BW.cell hc0
        have hc0' := BW.cell hc0'
        have hc1 := BW.cell hc1
        have hc1' := BW.cell hc1'
        by_cases he : xs[k] = ys[k]
        · have hd : decide (xs[k] = ys[k]) = true := decide_eq_true he
          have HE := Lib.hid he
          clear he
          go_wp2
          refine wp_region_bw (by kernel_rfl) (by kernel_rfl) ?_
          repeat (go_big_quiet_step ((go_at_call 30; exact Calls.bw (eq1_owner xs[k] ys[k]  _ ))))
          refine wpQuiet_nil ?_
          rintro w1 ⟨⟨_, hbw⟩, rfl⟩
          go_wp2
          go_roundw
          case rel => exact ⟨⟨k + 1, by omega, by go_num, eq_next HA.out hlt hlt' HE.out⟩, hb.trans (hbw.mono hb.size)⟩
          case measure => simp [intOf]; omega
        · have hd : decide (xs[k] = ys[k]) = false := decide_eq_false he
          have HE := Lib.hid he
          clear he
          go_wp2
          refine wp_region_bw (by kernel_rfl) (by kernel_rfl) ?_
          repeat (go_big_quiet_step ((go_at_call 30; exact Calls.bw (eq1_owner xs[k] ys[k]  _ ))))
          refine wpQuiet_nil ?_
          rintro w1 ⟨⟨_, hbw⟩, rfl⟩
          go_wp2
          go_ret
          exact ⟨ret_bool (by rw [eq_bad HA.out hlt hlt' HE.out]), hb.trans (hbw.mono hb.size)⟩
      · go_wp2
        go_ret
        exact ⟨ret_bool (by rw [eq_end HA.out hlt (by have := HN.out; omega)]), hb⟩
  · have hn2 : ((xs.length : Int) != ys.length) = true := by simp; omega
    go_enter Tryd.func11, Tryd.ntmps11
    go_wp2
    go_ret
    exact ⟨ret_bool (by symm; apply decide_eq_false; intro e; exact hn (by rw [e])), Below.refl _ _⟩
end Go.Proofs.YtlokkbllplhlbaaDoor
