/-
  Walks: a text of a pack by its chain, how deep it is.
-/
import Derived.Test.YtjfhbepnomnalaaPkQ
import Derived.Test.YtjfhbepnomnalaaPk2
set_option linter.unusedVariables false
namespace Go.Proofs.Ytjfhbepnomnalaa
open Go.RowKit Go.Vc
open Go.Vc.Rep (rd)
open Go.Vc.Own (own)

theorem doB_is {S T : Nat → Prop} (v : Value) (xs : List ByteArray) (u : Value) (ds : List Delta) (w : World) (hv : rd S w [v] xs) (hu : rd T w [u] ds) (hd : deltaB ds = true) {r : List ByteArray} {b : Bool} (h : doB xs ds = (r, b)) :
    Calls Try.prog 66 #[v, u] w fun e w' => ∃ v', e = .returned (.tuple #[v', .bool b]) ∧ Fresh w.heap.size w'.heap.size w' [v'] r ∧ Below w.heap.size w w' :=
  (l13Do_any v u xs ds w hv hu hd).mono fun e w' h' => by rw [h] at h'; exact h'

set_option maxHeartbeats 2000000 in
set_option maxRecDepth 100000 in
theorem l13Get_any {S : Nat → Prop} (xs : List Packed) (hfm : Hid (∀ j, PForm xs j)) : ∀ (n k : Nat) (v : Value) (w : World), rd S w [v] xs → k < n → k < xs.length → ∀ (r : List ByteArray) (b : Bool), getAt xs k = (r, b) →
    Calls Try.prog 81 #[v, .int .i64 k] w fun e w' => ∃ v', e = .returned (.tuple #[v', .bool b]) ∧ Fresh w.heap.size w'.heap.size w' [v'] r ∧ Below w.heap.size w w'
  | 0, k, _, _, _, h, _, _, _, _ => by omega
  | m + 1, k, v, w, hv, hkm, hlt, r, b, hr => by
    obtain ⟨a, cap, rfl, hs⟩ := rd_slice_elim (Rep.lt hv)
    have hle := hs.le
    obtain ⟨hf1, hf2, hf3⟩ := hfm.out k hlt
    have HF3 := Lib.hid hf3
    clear hf3
    obtain ⟨g, off, bl, n, rfl, hc0, hc1, hi1, hl⟩ := (hs.alloc (.cells #[] 9)).packed hlt
    by_cases h0 : xs[k].base = -1
    · have hg := getAt_none hlt h0
      rw [hg] at hr
      have HR := Lib.hid hr
      rw [h0] at hc0
      clear hg hr h0 hf1 hf2 hi1
      go_enter Try.func81, Try.ntmps81
      go_wp2_with fail
      have hb1 := (Below.refl w.heap.size w).alloc (Nat.le_refl _) (.cells #[] 9)
      refine (doB_is _ [] _ xs[k].pcs _ (Fresh.empty (β := ByteArray) (by decide) w.heap.size w (Nat.le_refl _)).rd hl.rd HF3.out HR.out).mono ?_
      rintro e w2 ⟨v', rfl, hF, hb2⟩
      go_wp2
      go_ret2
      exact ⟨v', rfl, hF.mono (by simp) (Nat.le_refl _), hb1.trans (hb2.mono (by simp))⟩
    · obtain ⟨q, hq⟩ : ∃ q : Nat, xs[k].base = q := ⟨xs[k].base.toNat, by omega⟩
      have hg := getAt_base hlt (fun j _ => hfm.out j) hq
      rw [hg] at hr
      have HR := Lib.hid hr
      rw [hq] at hc0 hf2
      have hqk : q < k := by omega
      clear hg hr h0 hf1 hf2 hi1 hq
      obtain ⟨rq, bq, hrq⟩ : ∃ r b, getAt xs q = (r, b) := ⟨_, _, rfl⟩
      have HRQ := Lib.hid hrq
      clear hrq
      have hs2 := hs.alloc (.cells #[] 9)
      have hb1 := (Below.refl w.heap.size w).alloc (Nat.le_refl _) (.cells #[] 9)
      have hlt2 : q < xs.length := by omega
      go_enter Try.func81, Try.ntmps81
      go_wp2_with fail
      refine (l13Get_any xs hfm m q _ _ hs2.rd (by omega) hlt2 rq bq HRQ.out).mono ?_
      rintro e w2 ⟨v2, rfl, hF2, hb2⟩
      have hl3 := hl.below (Nat.le_refl _) hb2
      have hc3 := keepc hc1 hb2
      have hb3 := hb1.trans (hb2.mono (by simp))
      cases bq with
      | false =>
        have HZ := Lib.hid (show (([] : List ByteArray), false) = (r, b) by have := HR.out; rw [HRQ.out] at this; simpa using this)
        go_wp2
        go_ret2
        have hz := HZ.out
        simp at hz
        obtain ⟨rfl, rfl⟩ := hz
        exact ⟨.slice none 0 0, rfl, Fresh.nil _ _ _ (by decide), hb3⟩
      | true =>
        have HZ := Lib.hid (show doB rq xs[k].pcs = (r, b) by have := HR.out; rw [HRQ.out] at this; simpa using this)
        go_wp2_with fail
        refine (doB_is _ rq _ xs[k].pcs _ hF2.rd hl3.rd HF3.out HZ.out).mono ?_
        rintro e w4 ⟨v4, rfl, hF4, hb4⟩
        go_wp2
        go_ret2
        exact ⟨v4, rfl, hF4.mono hb3.size (Nat.le_refl _), hb3.trans (hb4.mono hb3.size)⟩

set_option maxHeartbeats 1000000 in
theorem l13Deep_any {S : Nat → Prop} (xs : List Packed) (hfm : Hid (∀ j, PForm xs j)) (k : Nat) (v : Value) (w : World) (hv : rd S w [v] xs) (hk : k < xs.length) (hlen : xs.length ≤ 1048576) :
    Calls Try.prog 84 #[v, .int .i64 k] w fun e w' => e = .returned (.int .i64 (deepAt xs k)) ∧ w = w' := by
  obtain ⟨a, cap, rfl, hs⟩ := rd_slice_elim (Rep.lt hv)
  have hdl := deepAt_le hfm.out (k + 1) k (by omega) hk
  go_enter Try.func84, Try.ntmps84
  go_wp2
  go_loop [1, 5] (fun i n => ∃ q m : Nat, q < xs.length ∧ i = .int .i64 q ∧ 1 ≤ m ∧ m ≤ deepAt xs k ∧ n = .int .i64 m ∧ Hid (deepAt xs k + 1 = m + deepAt xs q)) (fun i _ => (intOf i).toNat)
  case atStart => exact ⟨k, 1, by omega, rfl, by omega, by omega, rfl, by show _ = _; omega⟩
  case round =>
    obtain ⟨q, m, hq, rfl, hm1, hm2, rfl, HA⟩ := hrel
    obtain ⟨hf1, hf2, _⟩ := hfm.out q hq
    obtain ⟨g, off, bl, n, rfl, hc0, hc1, hi1, hl⟩ := hs.packed hq
    by_cases h0 : xs[q].base = -1
    · have HD := Lib.hid (deepAt_none hq h0)
      rw [h0] at hc0
      clear h0 hi1 hf1 hf2
      go_wp2
      go_ret
      exact ⟨ret_int (by have h1 := HD.out; have h2 := HA.out; omega), rfl⟩
    · obtain ⟨p, hp⟩ : ∃ p : Nat, xs[q].base = p := ⟨xs[q].base.toNat, by omega⟩
      have HD := Lib.hid (deepAt_base hq (fun j _ => hfm.out j) hp)
      have hpl := deepAt_le hfm.out (p + 1) p (by omega) (by omega)
      have hHA := HA.out
      have hHD := HD.out
      have hmm : m + 1 ≤ deepAt xs k := by omega
      clear hHA hHD
      rw [hp] at hc0 hf2
      clear h0 hi1 hp
      go_wp2
      go_round
      case rel => exact ⟨p, m + 1, by omega, rfl, by omega, hmm, by go_num, by show _ = _; have h1 := HD.out; have h2 := HA.out; omega⟩
      case measure => simp [intOf]; omega
end Go.Proofs.Ytjfhbepnomnalaa
