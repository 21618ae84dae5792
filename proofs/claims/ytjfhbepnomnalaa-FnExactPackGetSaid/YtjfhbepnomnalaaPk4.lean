/-
  Walks: whether there is a pack.
-/
import Derived.Test.YtjfhbepnomnalaaPk3
set_option linter.unusedVariables false
namespace Go.Proofs.Ytjfhbepnomnalaa
open Go.RowKit Go.Vc
open Go.Vc.Rep (rd)
open Go.Vc.Own (own)

theorem l1In_is (n lo hi : Int) (w : World) {b : Bool} (h : withinB n lo hi = b) :
    Calls Try.prog 80 #[.int .i64 n, .int .i64 lo, .int .i64 hi] w fun e w' => e = .returned (.bool b) ∧ w = w' :=
  (l1In_any n lo hi w).mono fun e w' h' => by rw [← h]; exact h'
theorem l13Ok_is {S : Nat → Prop} (v : Value) (xs : List Delta) (w : World) (hv : rd S w [v] xs) {b : Bool} (h : deltaB xs = b) :
    Calls Try.prog 58 #[v] w fun e w' => e = .returned (.bool b) ∧ Below w.heap.size w w' :=
  (l13Ok_any v xs w hv).mono fun e w' h' => by rw [← h]; exact h'

set_option maxHeartbeats 2000000 in
set_option maxRecDepth 100000 in
theorem l13PackOk_is {S : Nat → Prop} (v : Value) (xs : List Packed) (w : World) (hv : rd S w [v] xs) (hlen : xs.length ≤ 1048576) {b : Bool} (hb0 : packB xs = b) :
    Calls Try.prog 75 #[v] w fun e w' => e = .returned (.bool b) ∧ Below w.heap.size w w' := by
  obtain ⟨a, cap, rfl, hs⟩ := rd_slice_elim (Rep.lt hv)
  have hle := hs.le
  have HB := Lib.hid hb0
  clear hb0
  go_enter Try.func75, Try.ntmps75
  go_wp2
  go_loopw [3] (fun i wr => (∃ k : Nat, k ≤ xs.length ∧ i = .int .i64 k ∧ Hid (∀ j, j < k → PForm xs j)) ∧ Below w.heap.size w wr) (fun i _ => xs.length - (intOf i).toNat)
  case atStart => exact ⟨⟨0, by omega, rfl, by show ∀ _, _; intro j hj; omega⟩, Below.refl _ _⟩
  case round =>
    obtain ⟨⟨k, hk, rfl, HA⟩, hb⟩ := hrel
    by_cases hlt : k < xs.length
    · obtain ⟨g, off, bl, n, rfl, hc0, hc1, hi1, hl⟩ := (hs.keep hb).packed hlt
      cases h1 : withinB xs[k].base (-1) ((k : Int) - 1) with
      | false =>
        have HN := Lib.hid (packB_f hlt fun hG => by have := hG.1 hlt; rw [(withinB_iff _ _ _).2 ⟨this.1, this.2.1⟩] at h1; cases h1)
        go_wp2_with (go_at_call 80; refine (l1In_is _ _ _ _ h1).mono ?_; rintro e w' ⟨rfl, rfl⟩)
        go_ret
        exact ⟨ret_bool (by rw [← HB.out, HN.out]), hb⟩
      | true =>
        have hr := (withinB_iff _ _ _).1 h1
        cases h2 : deltaB xs[k].pcs with
        | false =>
          have HN := Lib.hid (packB_f hlt fun hG => by have := hG.1 hlt; rw [this.2.2] at h2; cases h2)
          clear hr
          go_wp2_with (first | (go_at_call 80; refine (l1In_is _ _ _ _ h1).mono ?_; rintro e w' ⟨rfl, rfl⟩) | (go_at_call 58; refine (l13Ok_is _ _ _ hl.rd h2).mono ?_; rintro e w' ⟨rfl, hbw⟩))
          go_ret
          exact ⟨ret_bool (by rw [← HB.out, HN.out]), hb.trans (hbw.mono hb.size)⟩
        | true =>
          have HF := Lib.hid (show PForm xs k from fun _ => ⟨hr.1, hr.2, h2⟩)
          clear hr
          go_wp2_with (first | (go_at_call 80; refine (l1In_is _ _ _ _ h1).mono ?_; rintro e w' ⟨rfl, rfl⟩) | (go_at_call 58; refine (l13Ok_is _ _ _ hl.rd h2).mono ?_; rintro e w' ⟨rfl, hbw⟩))
          go_roundw
          case rel => exact ⟨⟨k + 1, by omega, by go_num, by show ∀ _, _; intro j hj; by_cases e : j < k; exact HA.out j e; exact (show j = k by omega) ▸ HF.out⟩, hb.trans (hbw.mono hb.size)⟩
          case measure => simp [intOf]; omega
    · have hfm : Hid (∀ j, PForm xs j) := by
        show ∀ _, _
        intro j
        by_cases e : j < k
        · exact HA.out j e
        · exact fun h => by omega
      go_wp2
      go_loopw [4] (fun i wr => (∃ k : Nat, k ≤ xs.length ∧ i = .int .i64 k ∧ Hid (∀ j, j < k → PGood xs j)) ∧ Below w.heap.size w wr) (fun i _ => xs.length - (intOf i).toNat)
      case atStart => exact ⟨⟨0, by omega, rfl, by show ∀ _, _; intro j hj; omega⟩, hb⟩
      case round =>
        clear hlt hk HA hb
        obtain ⟨⟨k, hk, rfl, HA⟩, hb⟩ := hrel
        by_cases hlt : k < xs.length
        · obtain ⟨r, ok, hr⟩ : ∃ r ok, getAt xs k = (r, ok) := ⟨_, _, rfl⟩
          have HR := Lib.hid hr
          clear hr
          go_wp2_with fail
          refine (l13Get_any xs hfm (k + 1) k _ _ (hs.keep hb).rd (by omega) hlt r ok HR.out).mono ?_
          rintro e w2 ⟨v2, rfl, hF2, hb2⟩
          have hb3 := hb.trans (hb2.mono hb.size)
          have hdl := deepAt_le hfm.out (k + 1) k (by omega) hlt
          cases ok with
          | false =>
            have HN := Lib.hid (packB_f hlt fun hG => by have := hG.2.1; rw [HR.out] at this; cases this)
            go_wp2
            go_ret
            exact ⟨ret_bool (by rw [← HB.out, HN.out]), hb3⟩
          | true =>
            by_cases h3 : 3 < deepAt xs k
            · have h3' : decide ((3 : Int) < deepAt xs k) = true := decide_eq_true (by omega)
              have HN := Lib.hid (packB_f hlt fun hG => by have := hG.2.2; omega)
              go_wp2_with (go_at_call 84; refine (l13Deep_any xs hfm k _ _ (hs.keep hb3).rd hlt hlen).mono ?_; rintro e w' ⟨rfl, rfl⟩)
              go_ret
              exact ⟨ret_bool (by rw [← HB.out, HN.out]), hb3⟩
            · have h3' : decide ((3 : Int) < deepAt xs k) = false := decide_eq_false (by omega)
              have HG := Lib.hid (show PGood xs k from ⟨hfm.out k, by rw [HR.out], by omega⟩)
              go_wp2_with (go_at_call 84; refine (l13Deep_any xs hfm k _ _ (hs.keep hb3).rd hlt hlen).mono ?_; rintro e w' ⟨rfl, rfl⟩)
              go_roundw
              case rel => exact ⟨⟨k + 1, by omega, by go_num, by show ∀ _, _; intro j hj; by_cases e : j < k; exact HA.out j e; exact (show j = k by omega) ▸ HG.out⟩, hb3⟩
              case measure => simp [intOf]; omega
        · by_cases h12 : xs.length ≤ 12
          · have HN := Lib.hid (packB_t (fun j hj => HA.out j (by omega)) h12)
            have h12' : decide ((xs.length : Int) ≤ 12) = true := decide_eq_true (by omega)
            go_wp2
            go_ret
            exact ⟨ret_bool (by rw [← HB.out, HN.out]), hb⟩
          · have HN := Lib.hid (packB_long h12)
            have h12' : decide ((xs.length : Int) ≤ 12) = false := decide_eq_false (by omega)
            go_wp2
            go_ret
            exact ⟨ret_bool (by rw [← HB.out, HN.out]), hb⟩

theorem specPackOk_is {S : Nat → Prop} (v : Value) (xs : List Packed) (w : World) (hv : rd S w [v] xs) (hlen : xs.length ≤ 1048576) {b : Bool} (hb0 : packB xs = b) :
    Calls Try.prog 37 #[v] w fun e w' => e = .returned (.bool b) ∧ Below w.heap.size w w' := by
  go_enter Try.func37, Try.ntmps37
  go_wp2_with fail
  refine (l13PackOk_is v xs _ hv hlen hb0).mono ?_
  rintro e w2 ⟨rfl, hb⟩
  go_wp2
  go_ret
  exact ⟨rfl, hb⟩
theorem unpack_is {S : Nat → Prop} (v : Value) (xs : List Packed) (w : World) (hv : rd S w [v] xs) {b : Bool} {ts : List (List ByteArray)} (hb : packB xs = b) (hts : (unp xs).getD [] = ts) :
    Calls Try.prog 77 #[v] w fun e w' => ∃ v', e = .returned (.tuple #[v', .bool b]) ∧ Fresh w.heap.size w'.heap.size w' [v'] ts ∧ Below w.heap.size w w' :=
  (unpack_any v xs w hv).mono fun e w' h' => by rw [unp_ok, hb, hts] at h'; exact h'
theorem implPackOk_is {S : Nat → Prop} (v : Value) (xs : List Packed) (w : World) (hv : rd S w [v] xs) {b : Bool} (hb0 : packB xs = b) :
    Calls Try.prog 39 #[v] w fun e w' => e = .returned (.bool b) ∧ Below w.heap.size w w' := by
  go_enter Try.func39, Try.ntmps39
  go_wp2_with fail
  refine (unpack_is v xs _ hv hb0 rfl).mono ?_
  rintro e w2 ⟨v', rfl, _, hb⟩
  go_wp2
  go_ret
  exact ⟨rfl, hb⟩
end Go.Proofs.Ytjfhbepnomnalaa
