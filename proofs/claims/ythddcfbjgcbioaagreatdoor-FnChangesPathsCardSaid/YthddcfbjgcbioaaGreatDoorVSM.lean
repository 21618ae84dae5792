/-
  Walks: whether two texts are one. / Plain functions: whether, and how often, a line is among others. No program is in sight here. / Walks: what the laws of texts compare with. / Walks: what the laws of trees compare with. / Walks: lists of clashes, compared.
-/
import Derived.Test.YthddcfbjgcbioaaGreatDoorVI
import Derived.Test.YthddcfbjgcbioaaGreatDoorVA
import Derived.Test.YthddcfbjgcbioaaGreatDoorVC
import Derived.Test.YthddcfbjgcbioaaGreatDoorVP1
set_option linter.unusedVariables false
namespace Go.Proofs.YthddcfbjgcbioaaGreatDoor
open Go.RowKit Go.Vc
open Go.Vc.Rep (rd)
open Go.Vc.Own (own)

set_option maxHeartbeats 400000 in
theorem smTexts_any {S T : Nat → Prop} (v u : Value) (xs ys : List ByteArray) (w : World) (hv : rd S w [v] xs) (hu : rd T w [u] ys) :
    Calls Tryz.prog 7 #[v, u] w fun e w' => e = .returned (.bool (decide (xs = ys))) ∧ ∃ n, w' = w.drewN n := by
  obtain ⟨a, cap, rfl, hs⟩ := rd_slice_elim hv
  obtain ⟨b, cbp, rfl, ht⟩ := rd_slice_elim hu
  have hle := hs.le
  have hle' := ht.le
  by_cases hn : xs.length = ys.length
  · have hn2 : ((xs.length : Int) != ys.length) = false := by simp [hn]
    have HN := Lib.hid hn
    clear hn
    go_enter Tryz.func7, Tryz.ntmps7
    go_wp2
    go_loopw [5] (fun i wr => (∃ k : Nat, k ≤ xs.length ∧ i = .int .i64 k ∧ Hid (decide (xs = ys) = decide (xs.drop k = ys.drop k))) ∧ ∃ n, wr = w.drewN n) (fun i _ => xs.length - (intOf i).toNat)
    case atStart => exact ⟨⟨0, by omega, rfl, rfl⟩, 0, rfl⟩
    case round =>
      obtain ⟨⟨k, hk, rfl, HA⟩, nw, rfl⟩ := hrel
      by_cases hlt : k < xs.length
      · have hlt' : k < ys.length := by rw [← HN.out]; exact hlt
        obtain ⟨g, off, rfl, hc, _⟩ := hs.str hlt
        obtain ⟨g', off', rfl, hc', _⟩ := ht.str hlt'
        by_cases he : xs[k] = ys[k]
        · have he2 : decide (xs[k] = ys[k]) = true := decide_eq_true he
          have HE := Lib.hid he
          clear he
          go_wp2
          go_quiet (fail)
          go_wp2
          go_roundw
          case rel => exact ⟨⟨k + 1, by omega, by go_num, eq_next HA.out hlt hlt' HE.out⟩, _, rfl⟩
          case measure => simp [intOf]; omega
        · have he2 : decide (xs[k] = ys[k]) = false := decide_eq_false he
          go_wp2
          go_quiet (fail)
          go_wp2
          go_ret
          exact ⟨ret_bool (by rw [eq_bad HA.out hlt hlt' he]), drew_any⟩
      · go_wp2
        go_ret
        exact ⟨ret_bool (by rw [eq_end HA.out hlt (by have := HN.out; omega)]), _, rfl⟩
  · have hn2 : ((xs.length : Int) != ys.length) = true := by simp; omega
    go_enter Tryz.func7, Tryz.ntmps7
    go_wp2
    go_ret
    exact ⟨ret_bool (by symm; apply decide_eq_false; intro e; exact hn (by rw [e])), 0, rfl⟩
theorem smTexts_is {S T : Nat → Prop} (v u : Value) (xs ys : List ByteArray) (w : World) (hv : rd S w [v] xs) (hu : rd T w [u] ys) {b : Bool} (h : decide (xs = ys) = b) :
    Calls Tryz.prog 7 #[v, u] w fun e w' => e = .returned (.bool b) ∧ ∃ n, w' = w.drewN n := by rw [← h]; exact smTexts_any v u xs ys w hv hu
set_option maxHeartbeats 400000 in
theorem slicesEqual_any {S T : Nat → Prop} (v u : Value) (xs ys : List ByteArray) (w : World) (hv : rd S w [v] xs) (hu : rd T w [u] ys) :
    Calls Tryz.prog 23 #[v, u] w fun e w' => e = .returned (.bool (decide (xs = ys))) ∧ ∃ n, w' = w.drewN n := by
  obtain ⟨a, cap, rfl, hs⟩ := rd_slice_elim hv
  obtain ⟨b, cbp, rfl, ht⟩ := rd_slice_elim hu
  have hle := hs.le
  have hle' := ht.le
  by_cases hn : xs.length = ys.length
  · have hn2 : ((xs.length : Int) != ys.length) = false := by simp [hn]
    have HN := Lib.hid hn
    clear hn
    go_enter Tryz.func23, Tryz.ntmps23
    go_wp2
    go_loopw [13] (fun i wr => (∃ k : Nat, k ≤ xs.length ∧ i = .int .i64 k ∧ Hid (decide (xs = ys) = decide (xs.drop k = ys.drop k))) ∧ ∃ n, wr = w.drewN n) (fun i _ => xs.length - (intOf i).toNat)
    case atStart => exact ⟨⟨0, by omega, rfl, rfl⟩, 0, rfl⟩
    case round =>
      obtain ⟨⟨k, hk, rfl, HA⟩, nw, rfl⟩ := hrel
      by_cases hlt : k < xs.length
      · have hlt' : k < ys.length := by rw [← HN.out]; exact hlt
        obtain ⟨g, off, rfl, hc, _⟩ := hs.str hlt
        obtain ⟨g', off', rfl, hc', _⟩ := ht.str hlt'
        by_cases he : xs[k] = ys[k]
        · have he2 : decide (xs[k] = ys[k]) = true := decide_eq_true he
          have HE := Lib.hid he
          clear he
          go_wp2
          go_quiet (fail)
          go_wp2
          go_roundw
          case rel => exact ⟨⟨k + 1, by omega, by go_num, eq_next HA.out hlt hlt' HE.out⟩, _, rfl⟩
          case measure => simp [intOf]; omega
        · have he2 : decide (xs[k] = ys[k]) = false := decide_eq_false he
          go_wp2
          go_quiet (fail)
          go_wp2
          go_ret
          exact ⟨ret_bool (by rw [eq_bad HA.out hlt hlt' he]), drew_any⟩
      · go_wp2
        go_ret
        exact ⟨ret_bool (by rw [eq_end HA.out hlt (by have := HN.out; omega)]), _, rfl⟩
  · have hn2 : ((xs.length : Int) != ys.length) = true := by simp; omega
    go_enter Tryz.func23, Tryz.ntmps23
    go_wp2
    go_ret
    exact ⟨ret_bool (by symm; apply decide_eq_false; intro e; exact hn (by rw [e])), 0, rfl⟩
theorem slicesEqual_is {S T : Nat → Prop} (v u : Value) (xs ys : List ByteArray) (w : World) (hv : rd S w [v] xs) (hu : rd T w [u] ys) {b : Bool} (h : decide (xs = ys) = b) :
    Calls Tryz.prog 23 #[v, u] w fun e w' => e = .returned (.bool b) ∧ ∃ n, w' = w.drewN n := by rw [← h]; exact slicesEqual_any v u xs ys w hv hu
set_option maxHeartbeats 400000 in
theorem l1Same_any {S T : Nat → Prop} (v u : Value) (xs ys : List ByteArray) (w : World) (hv : rd S w [v] xs) (hu : rd T w [u] ys) :
    Calls Tryz.prog 75 #[v, u] w fun e w' => e = .returned (.bool (decide (xs = ys))) ∧ ∃ n, w' = w.drewN n := by
  obtain ⟨a, cap, rfl, hs⟩ := rd_slice_elim hv
  obtain ⟨b, cbp, rfl, ht⟩ := rd_slice_elim hu
  have hle := hs.le
  have hle' := ht.le
  by_cases hn : xs.length = ys.length
  · have hn2 : ((xs.length : Int) != ys.length) = false := by simp [hn]
    have HN := Lib.hid hn
    clear hn
    go_enter Tryz.func75, Tryz.ntmps75
    go_wp2
    go_loopw [5] (fun i wr => (∃ k : Nat, k ≤ xs.length ∧ i = .int .i64 k ∧ Hid (decide (xs = ys) = decide (xs.drop k = ys.drop k))) ∧ ∃ n, wr = w.drewN n) (fun i _ => xs.length - (intOf i).toNat)
    case atStart => exact ⟨⟨0, by omega, rfl, rfl⟩, 0, rfl⟩
    case round =>
      obtain ⟨⟨k, hk, rfl, HA⟩, nw, rfl⟩ := hrel
      by_cases hlt : k < xs.length
      · have hlt' : k < ys.length := by rw [← HN.out]; exact hlt
        obtain ⟨g, off, rfl, hc, _⟩ := hs.str hlt
        obtain ⟨g', off', rfl, hc', _⟩ := ht.str hlt'
        by_cases he : xs[k] = ys[k]
        · have he2 : decide (xs[k] = ys[k]) = true := decide_eq_true he
          have HE := Lib.hid he
          clear he
          go_wp2
          go_quiet (fail)
          go_wp2
          go_roundw
          case rel => exact ⟨⟨k + 1, by omega, by go_num, eq_next HA.out hlt hlt' HE.out⟩, _, rfl⟩
          case measure => simp [intOf]; omega
        · have he2 : decide (xs[k] = ys[k]) = false := decide_eq_false he
          go_wp2
          go_quiet (fail)
          go_wp2
          go_ret
          exact ⟨ret_bool (by rw [eq_bad HA.out hlt hlt' he]), drew_any⟩
      · go_wp2
        go_ret
        exact ⟨ret_bool (by rw [eq_end HA.out hlt (by have := HN.out; omega)]), _, rfl⟩
  · have hn2 : ((xs.length : Int) != ys.length) = true := by simp; omega
    go_enter Tryz.func75, Tryz.ntmps75
    go_wp2
    go_ret
    exact ⟨ret_bool (by symm; apply decide_eq_false; intro e; exact hn (by rw [e])), 0, rfl⟩
theorem l1Same_is {S T : Nat → Prop} (v u : Value) (xs ys : List ByteArray) (w : World) (hv : rd S w [v] xs) (hu : rd T w [u] ys) {b : Bool} (h : decide (xs = ys) = b) :
    Calls Tryz.prog 75 #[v, u] w fun e w' => e = .returned (.bool b) ∧ ∃ n, w' = w.drewN n := by rw [← h]; exact l1Same_any v u xs ys w hv hu
end Go.Proofs.YthddcfbjgcbioaaGreatDoor
namespace Go.Vc
/-- how many times a line is among others -/
def manyT (s : ByteArray) (xs : List ByteArray) : Nat := (xs.filter fun x => decide (x = s)).length
def hasS (s : ByteArray) (xs : List ByteArray) : Bool := xs.any fun x => decide (x = s)
theorem manyT_app (s : ByteArray) (xs ys : List ByteArray) : manyT s (xs ++ ys) = manyT s xs + manyT s ys := by unfold manyT; rw [List.filter_append, List.length_append]
theorem manyT_none {s : ByteArray} {xs : List ByteArray} (h : ∀ x, x ∈ xs → ¬ x = s) : manyT s xs = 0 := by
  unfold manyT
  rw [List.filter_eq_nil_iff.2 fun x hx => by simpa using h x hx]; rfl
theorem manyT_le (s : ByteArray) (xs : List ByteArray) : manyT s xs ≤ xs.length := List.length_filter_le _ _
theorem hasS_f {s : ByteArray} {xs : List ByteArray} (h : hasS s xs = false) : ∀ x, x ∈ xs → ¬ x = s := fun x hx e => by
  unfold hasS at h
  have := (List.any_eq_false.1 h) x hx
  simp [e] at this
theorem many_yes {s : ByteArray} {M : Nat} {xs : List ByteArray} {n k : Nat} (H : M = n + manyT s (xs.drop k)) (h : k < xs.length) (he : xs[k] = s) : M = (n + 1) + manyT s (xs.drop (k + 1)) := by
  rw [H, drop_cons xs k h, manyT, List.filter_cons_of_pos (by simpa using he), List.length_cons, manyT]; omega
theorem many_no {s : ByteArray} {M : Nat} {xs : List ByteArray} {n k : Nat} (H : M = n + manyT s (xs.drop k)) (h : k < xs.length) (he : ¬ xs[k] = s) : M = n + manyT s (xs.drop (k + 1)) := by
  rw [H, drop_cons xs k h, manyT, List.filter_cons_of_neg (by simpa using he), manyT]
theorem many_end {s : ByteArray} {M : Nat} {xs : List ByteArray} {n k : Nat} (H : M = n + manyT s (xs.drop k)) (h : ¬ k < xs.length) : M = n := by
  rw [H, drop_nil xs k h]; rfl
theorem hasS_hit {s : ByteArray} {B : Bool} {xs : List ByteArray} {k : Nat} (H : B = hasS s (xs.drop k)) (h : k < xs.length) (he : xs[k] = s) : B = true := by
  rw [H, drop_cons xs k h, hasS, List.any_cons, decide_eq_true he]; rfl
theorem hasS_next {s : ByteArray} {B : Bool} {xs : List ByteArray} {k : Nat} (H : B = hasS s (xs.drop k)) (h : k < xs.length) (he : ¬ xs[k] = s) : B = hasS s (xs.drop (k + 1)) := by
  rw [H, drop_cons xs k h, hasS, List.any_cons, decide_eq_false he]; rfl
theorem hasS_end {s : ByteArray} {B : Bool} {xs : List ByteArray} {k : Nat} (H : B = hasS s (xs.drop k)) (h : ¬ k < xs.length) : B = false := by
  rw [H, drop_nil xs k h]; rfl
end Go.Vc
namespace Go.Proofs.YthddcfbjgcbioaaGreatDoor
open Go.RowKit Go.Vc
open Go.Vc.Rep (rd)
open Go.Vc.Own (own)

theorem smTexts_c {S T : Nat → Prop} (v u : Value) (xs ys : List ByteArray) (w : World) (hv : rd S w [v] xs) (hu : rd T w [u] ys) {b : Bool} (h : decide (xs = ys) = b) :
    Calls Tryz.prog 7 #[v, u] w fun e w' => e = .returned (.bool b) ∧ Below w.heap.size w w' :=
  (smTexts_is v u xs ys w hv hu h).mono fun e w' h' => by
    obtain ⟨h1, n, rfl⟩ := h'
    exact ⟨h1, below_drewN (Below.refl _ _) n⟩
set_option maxHeartbeats 1000000 in
theorem smHas_is {S : Nat → Prop} (v : Value) (xs : List ByteArray) (s : ByteArray) (w : World) (hv : rd S w [v] xs) {b : Bool} (h : hasS s xs = b) :
    Calls Tryz.prog 12 #[v, .string s] w fun e w' => e = .returned (.bool b) ∧ Below w.heap.size w w' := by
  obtain ⟨a, cap, rfl, hs⟩ := rd_slice_elim (Rep.lt hv)
  have hle := hs.le
  have H0 : Hid (b = hasS s xs) := h.symm
  clear h
  go_enter Tryz.func12, Tryz.ntmps12
  go_wp2
  go_loopw [5] (fun i wr => (∃ k : Nat, k ≤ xs.length ∧ i = .int .i64 k ∧ Hid (b = hasS s (xs.drop k))) ∧ Below w.heap.size w wr) (fun i _ => xs.length - (intOf i).toNat)
  case atStart => exact ⟨⟨0, by omega, rfl, H0.out⟩, Below.refl _ _⟩
  case round =>
    obtain ⟨⟨k, hk, rfl, HA⟩, hb⟩ := hrel
    by_cases hlt : k < xs.length
    · obtain ⟨g, off, rfl, hc, _⟩ := (hs.keep hb).str hlt
      by_cases he : xs[k] = s
      · have HN := Lib.hid (hasS_hit HA.out hlt he)
        have hd : decide (xs[k] = s) = true := decide_eq_true he
        clear he
        go_wp2
        go_ret
        exact ⟨ret_bool HN.out.symm, hb⟩
      · have HN := Lib.hid (hasS_next HA.out hlt he)
        have hd : decide (xs[k] = s) = false := decide_eq_false he
        clear he
        go_wp2
        go_roundw
        case rel => exact ⟨⟨k + 1, by omega, by go_num, HN.out⟩, hb⟩
        case measure => simp [intOf] <;> omega
    · have HN := Lib.hid (hasS_end HA.out hlt)
      go_wp2
      go_ret
      exact ⟨ret_bool HN.out.symm, hb⟩
end Go.Proofs.YthddcfbjgcbioaaGreatDoor
namespace Go.Proofs.YthddcfbjgcbioaaGreatDoor
open Go.RowKit Go.Vc
open Go.Vc.Rep (rd)
open Go.Vc.Own (own)

end Go.Proofs.YthddcfbjgcbioaaGreatDoor
namespace Go.Proofs.YthddcfbjgcbioaaGreatDoor
open Go.RowKit Go.Vc
open Go.Vc.Rep (rd)
open Go.Vc.Own (own)
end Go.Proofs.YthddcfbjgcbioaaGreatDoor
