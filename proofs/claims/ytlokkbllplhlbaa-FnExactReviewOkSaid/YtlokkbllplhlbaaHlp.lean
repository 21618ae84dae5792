/-
  Walks: the laws' own helpers on []string: what they take of a budget, copies, whether two are one.
-/
import Derived.Test.YtlokkbllplhlbaaW1
import Derived.Test.YtlokkbllplhlbaaGen
set_option linter.unusedVariables false
namespace Go.Proofs.Ytlokkbllplhlbaa
open Go.RowKit Go.Vc
open Go.Vc.Rep (rd)
open Go.Vc.Own (own)

set_option maxHeartbeats 400000 in
theorem szStringS_any {S : Nat → Prop} (v : Value) (xs : List ByteArray) (l : Int) (w : World) (hv : rd S w [v] xs) (hl0 : 0 ≤ l) (hl1 : l ≤ 1048576) :
    Calls Try.prog 39 #[v, .int .i64 l] w fun e w' => e = .returned (.int .i64 (sub l (bulkS xs))) ∧ w = w' := by
  obtain ⟨a, cap, rfl, hs⟩ := rd_slice_elim hv
  have hle := hs.le
  by_cases h0 : l - xs.length < 0
  · go_enter Try.func39, Try.ntmps39
    go_wp2
    go_ret
    exact ⟨ret_int (by rw [bulkS, bulkL, sub_bad _ (by omega)]), rfl⟩
  · go_enter Try.func39, Try.ntmps39
    go_wp2
    go_loop [1, 5] (fun left i => ∃ (k : Nat) (m : Int), k ≤ xs.length ∧ i = .int .i64 k ∧ left = .int .i64 m ∧ 0 ≤ m ∧ m ≤ 1048576 ∧ Hid (sub l (bulkS xs) = sub m (bsum ByteArray.size (xs.drop k)))) (fun _ i => xs.length - (intOf i).toNat)
    case atStart => exact ⟨0, _, by omega, rfl, rfl, by omega, by omega, by show _ = _; rw [bulkS, bulkL, sub_next _ (by omega)]; rfl⟩
    case round =>
      obtain ⟨k, m, hk, rfl, rfl, hm0, hm1, HA⟩ := hrel
      by_cases hlt : k < xs.length
      · obtain ⟨g, off, rfl, hc, hsz⟩ := hs.str hlt
        unfold maxLen at hsz
        by_cases hneg : m - xs[k].size < 0
        · go_wp2
          go_ret
          exact ⟨ret_int (by rw [HA.out, bsum_drop _ _ _ hlt, sub_bad _ (by omega)]), rfl⟩
        · go_wp2
          go_round
          case rel => exact ⟨k + 1, m - xs[k].size, by omega, by go_num, rfl, by omega, by omega, by show _ = _; rw [HA.out, bsum_drop _ _ _ hlt, sub_next _ (by omega)]⟩
          case measure => simp [intOf]; omega
      · go_wp2
        go_ret
        exact ⟨ret_int (by rw [HA.out, bsum_end _ _ _ hlt, sub_zero _ hm0]), rfl⟩

set_option maxHeartbeats 400000 in
theorem eqStringS_any {S T : Nat → Prop} (v u : Value) (xs ys : List ByteArray) (w : World) (hv : rd S w [v] xs) (hu : rd T w [u] ys) :
    Calls Try.prog 44 #[v, u] w fun e w' => e = .returned (.bool (decide (xs = ys))) ∧ ∃ n, w' = w.drewN n := by
  obtain ⟨a, cap, rfl, hs⟩ := rd_slice_elim hv
  obtain ⟨b, cbp, rfl, ht⟩ := rd_slice_elim hu
  have hle := hs.le
  have hle' := ht.le
  by_cases hn : xs.length = ys.length
  · have hn2 : ((xs.length : Int) != ys.length) = false := by simp [hn]
    have HN := Lib.hid hn
    clear hn
    go_enter Try.func44, Try.ntmps44
    go_wp2
    go_loopw [5] (fun i wr => (∃ k : Nat, k ≤ xs.length ∧ i = .int .i64 k ∧ Hid (decide (xs = ys) = decide (xs.drop k = ys.drop k))) ∧ ∃ n, wr = w.drewN n) (fun i _ => xs.length - (intOf i).toNat)
    case atStart => exact ⟨⟨0, by omega, rfl, rfl⟩, 0, rfl⟩
    case round =>
      obtain ⟨⟨k, hk, rfl, HA⟩, nw, rfl⟩ := hrel
      by_cases hlt : k < xs.length
      · have hlt' : k < ys.length := by rw [← HN.out]; exact hlt
        obtain ⟨g, off, rfl, hc, _⟩ := hs.str hlt
        obtain ⟨g', off', rfl, hc', _⟩ := ht.str hlt'
        by_cases he : xs[k] = ys[k]
        · have he2 : decide (xs[k] = ys[k]) = true := decide_eq_true he
          have HE := Lib.hid he
          clear he
          go_wp2
          go_quiet (fail)
          go_wp2
          go_roundw
          case rel => exact ⟨⟨k + 1, by omega, by go_num, eq_next HA.out hlt hlt' HE.out⟩, _, rfl⟩
          case measure => simp [intOf]; omega
        · have he2 : decide (xs[k] = ys[k]) = false := decide_eq_false he
          go_wp2
          go_quiet (fail)
          go_wp2
          go_ret
          exact ⟨ret_bool (by rw [eq_bad HA.out hlt hlt' he]), drew_any⟩
      · go_wp2
        go_ret
        exact ⟨ret_bool (by rw [eq_end HA.out hlt (by have := HN.out; omega)]), _, rfl⟩
  · have hn2 : ((xs.length : Int) != ys.length) = true := by simp; omega
    go_enter Try.func44, Try.ntmps44
    go_wp2
    go_ret
    exact ⟨ret_bool (by symm; apply decide_eq_false; intro e; exact hn (by rw [e])), 0, rfl⟩
set_option maxHeartbeats 400000 in
theorem toStringS_any {S : Nat → Prop} (v : Value) (xs : List ByteArray) (w : World) (hv : rd S w [v] xs) (hlen : xs.length ≤ 1048576) :
    Calls Try.prog 41 #[v] w fun e w' => ∃ v', e = .returned v' ∧ Fresh w.heap.size w'.heap.size w' [v'] xs ∧ Below w.heap.size w w' := by
  obtain ⟨a, cap, rfl, hs⟩ := rd_slice_elim (Rep.lt hv)
  have hmk := slz_string.make xs.length (by omega) (by unfold maxLen; omega)
  go_enter Try.func41, Try.ntmps41
  go_wp2
  clear hmk
  go_loopw [4] (fun i wr => (∃ k : Nat, k ≤ xs.length ∧ i = .int .i64 k ∧ Fresh w.heap.size wr.heap.size wr [.slice (some ⟨w.heap.size, 0, none⟩) xs.length xs.length] (fill xs (⟨#[]⟩ : ByteArray) k)) ∧ Below w.heap.size w wr) (fun i _ => xs.length - (intOf i).toNat)
  case atStart => exact ⟨⟨0, by omega, rfl, by rw [fill_zero]; exact (Fresh.made slz_string.hz slz_string.pos _ _ (by unfold maxLen; omega) (Nat.le_refl _)).now⟩, (Below.refl _ _).alloc (Nat.le_refl _) _⟩
  case round =>
    obtain ⟨⟨k, hk, rfl, hF⟩, hb⟩ := hrel
    by_cases hlt : k < xs.length
    · obtain ⟨g, off, rfl, hc, hsz⟩ := (hs.keep hb).str hlt
      obtain ⟨⟨u, hu⟩, hfz, _, _⟩ := hF.there1 rfl (i := k) (by rw [fill_len _ _ _ hk]; exact hlt)
      go_wp2
      go_roundw
      case rel => exact ⟨⟨k + 1, by omega, by go_num, by have := hF.set1 rfl (by rw [fill_len _ _ _ hk]; exact hlt) (Fresh.leaf (m := wr.heap.size) ⟨rfl, rfl, hsz⟩) hb.size; rw [fill_next _ _ _ hlt] at this; exact this⟩, hb.setCell (Nat.le_refl _) _⟩
      case measure => simp [intOf]; omega
    · go_wp2
      go_ret
      exact ⟨_, rfl, by have := hF.now; rw [fill_all _ _ _ hlt] at this; exact this, hb⟩
abbrev bulk_S (xs : List ByteArray) : Nat := bulkS xs
theorem sz_S {S : Nat → Prop} (v : Value) (xs : List ByteArray) (l : Int) (w : World) (hv : rd S w [v] xs) (hl0 : 0 ≤ l) (hl1 : l ≤ 1048576) :
    Calls Try.prog 39 #[v, .int .i64 l] w fun e w' => e = .returned (.int .i64 (sub l (bulk_S xs))) ∧ Below w.heap.size w w' :=
  (szStringS_any v xs l w hv hl0 hl1).mono fun _ _ ⟨h, e⟩ => ⟨h, e ▸ Below.refl _ _⟩
theorem to_S {S : Nat → Prop} (v : Value) (xs : List ByteArray) (w : World) (hv : rd S w [v] xs) (hlen : bulk_S xs ≤ 1048576) :
    Calls Try.prog 41 #[v] w fun e w' => ∃ v', e = .returned v' ∧ Fresh w.heap.size w'.heap.size w' [v'] xs ∧ Below w.heap.size w w' :=
  toStringS_any v xs w hv (by have : bulk_S xs = xs.length + bsum ByteArray.size xs := rfl; omega)
theorem eq_S {S T : Nat → Prop} (v u : Value) (xs ys : List ByteArray) (w : World) (hv : rd S w [v] xs) (hu : rd T w [u] ys) :
    Calls Try.prog 44 #[v, u] w fun e w' => e = .returned (.bool (decide (xs = ys))) ∧ Below w.heap.size w w' :=
  (eqStringS_any v u xs ys w hv hu).mono fun _ _ ⟨h, n, e⟩ => ⟨h, e ▸ below_drewN (Below.refl _ _) n⟩
end Go.Proofs.Ytlokkbllplhlbaa
