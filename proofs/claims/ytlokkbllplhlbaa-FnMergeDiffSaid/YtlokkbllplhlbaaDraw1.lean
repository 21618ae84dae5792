/-
  Walks: the reader.
-/
import Derived.Test.YtlokkbllplhlbaaTypesB
import Derived.Test.YtlokkbllplhlbaaW1
import Derived.Test.YtlokkbllplhlbaaDraw0
import Derived.Laws.Bits64
namespace Go.Proofs.Ytlokkbllplhlbaa
open Go.RowKit Go.Vc
open Go.Vc.Rep (rd)
open Go.Vc.Own (own)

theorem byte_cell {S : Nat → Prop} {w : World} {a : Option Addr} {cap : Nat} {xs : List UInt8} (h : IsSlice S w a cap xs) {i : Nat} (hi : i < xs.length) :
    ∃ g off, a = some ⟨g, off, none⟩ ∧ w.cell? ⟨g, off + i, none⟩ = some (.int .u8 xs[i].toNat) := by
  obtain ⟨g, off, us, h1, _, h3, h4⟩ := h.elem hi
  have e : us = [.int .u8 xs[i].toNat] := h4
  subst e
  refine ⟨g, off, h1, ?_⟩
  have := h3 0 _ rfl
  simpa [Rep.sz] using this

theorem xor_i64 (a b : Nat) (ha : a < 4611686018427387904) (hb : b < 4611686018427387904) : bits .xor .i64 (a : Int) (b : Int) = ((a ^^^ b : Nat) : Int) := by
  have hx : a ^^^ b < 2 ^ 62 := Nat.xor_lt_two_pow (by omega) (by omega)
  have h1 : (BitVec.ofInt 64 (a : Int)).toNat = a := by
    rw [BitVec.ofInt_natCast, BitVec.toNat_ofNat]; exact Nat.mod_eq_of_lt (by omega)
  have h2 : (BitVec.ofInt 64 (b : Int)).toNat = b := by
    rw [BitVec.ofInt_natCast, BitVec.toNat_ofNat]; exact Nat.mod_eq_of_lt (by omega)
  show IntKind.i64.wrap ((BitVec.ofInt 64 (a : Int) ^^^ BitVec.ofInt 64 (b : Int)).toNat : Int) = _
  rw [BitVec.toNat_xor, h1, h2]
  exact IntWalk.i64_in _ (by omega)
theorem pick_fin {x y n : Int} {R : Prop} (hx : 0 ≤ x) (hx' : x < 1000000000) (hy : 0 ≤ y) (hy' : y < 1000000000) (hn : 1 ≤ n) (hR : R) :
    ∃ k : Nat, Ending.returned (Value.int .i64 ((bits .xor .i64 x y).tmod n)) = .returned (.int .i64 k) ∧ ((k : Int) < n ∨ k = 0) ∧ R := by
  obtain ⟨a, rfl⟩ := Int.eq_ofNat_of_zero_le hx
  obtain ⟨b, rfl⟩ := Int.eq_ofNat_of_zero_le hy
  rw [xor_i64 a b (by omega) (by omega)]
  refine ⟨(((a ^^^ b : Nat) : Int) % n).toNat, ?_, ?_, hR⟩
  · rw [Int.toNat_of_nonneg (Int.emod_nonneg _ (by omega)), Int.tmod_eq_emod_of_nonneg (by omega)]
  · left
    rw [Int.toNat_of_nonneg (Int.emod_nonneg _ (by omega))]
    exact Int.emod_lt_of_pos _ (by omega)
theorem cell_off {w : World} {b i j : Nat} {x : Value} {v : Option Value} (h : w.cell? ⟨b, j, none⟩ = v) (hij : j ≠ i) : (w.setCell ⟨b, i, none⟩ x).cell? ⟨b, j, none⟩ = v :=
  (World.cell?_setCell_other w _ _ x (by simp <;> omega)).trans h

set_option maxHeartbeats 2000000 in
set_option maxRecDepth 100000 in
theorem pick_any (rb N : Nat) (n : Int) (w : World) (h : RdOk w rb N) (hN : N ≤ 1000000) (hn : n ≤ 1048576) :
    Calls Try.prog 76 #[.pointer (some ⟨rb, 0, none⟩), .int .i64 n] w fun e w' => ∃ k : Nat, e = .returned (.int .i64 k) ∧ ((k : Int) < n ∨ k = 0) ∧ Drew rb w w' ∧ RdOk w' rb (N + 1) := by
  obtain ⟨a, cap, p, bs, te, hh, hp, hs, hl⟩ := h
  have hlt : rb < w.heap.size := (Array.getElem?_eq_some_iff.1 hh).1
  have hc0 : w.cell? ⟨rb, 0, none⟩ = some (.slice a bs.length cap) := by rw [cell_of_row w rb 0 _ te (0, 0) hh]; rfl
  have hc1 : w.cell? ⟨rb, 1, none⟩ = some (.int .i64 p) := by rw [cell_of_row w rb 1 _ te (0, 0) hh]; rfl
  have hf1 : w.frozen? ⟨rb, 1, none⟩ = false := frozen_of_row w rb 1 _ te hh
  have hD : Drew rb w (w.setCell ⟨rb, 1, none⟩ (.int .i64 ((p : Int) + 1))) := (Drew.refl rb w).setCell (.inl (by simp)) _
  have hR : RdOk (w.setCell ⟨rb, 1, none⟩ (.int .i64 ((p : Int) + 1))) rb (N + 1) := by
    refine ⟨a, cap, p + 1, bs, te, ?_, by omega, hs.setCell (by simp), hl⟩
    rw [heap_setCell_same w rb 1 _ te _ hh]
    simp
  have hs1 : IsSlice (fun b => b < rb) (w.setCell ⟨rb, 1, none⟩ (.int .i64 ((p : Int) + 1))) a cap bs := hs.setCell (by simp)
  have HD := Lib.hid hD
  have HR := Lib.hid hR
  clear hD hR hh
  by_cases h1 : n < 1
  · go_enter Try.func76, Try.ntmps76
    go_wp2
    go_ret
    exact ⟨0, rfl, .inr rfl, HD.out, HR.out⟩
  · by_cases h2 : bs.length = 0
    · have h2' : ((bs.length : Int) == 0) = true := by rw [h2]; rfl
      have H2 := Lib.hid h2
      clear h2
      go_enter Try.func76, Try.ntmps76
      go_wp2
      go_ret
      exact ⟨0, rfl, .inr rfl, HD.out, HR.out⟩
    · have h2' : ((bs.length : Int) == 0) = false := by simp only [beq_eq_false_iff_ne, ne_eq]; omega
      have h20 : 0 < bs.length := by omega
      clear h2
      by_cases h3 : p < bs.length
      · obtain ⟨g, off, rfl, hb⟩ := byte_cell hs1 h3
        have h3' : decide (((p : Int) + 1 - 1) < (bs.length : Int)) = true := by simp; omega
        have hu : bs[p].toNat < 256 := bs[p].toNat_lt
        generalize bs[p].toNat = u at hb hu
        have h1' : n ≠ 0 := by omega
        go_enter Try.func76, Try.ntmps76
        go_wp2
        go_ret
        refine ⟨((u : Int) % n).toNat, ?_, ?_, HD.out, HR.out⟩
        · rw [Int.toNat_of_nonneg (Int.emod_nonneg _ h1')]; rfl
        · left
          rw [Int.toNat_of_nonneg (Int.emod_nonneg _ h1')]
          exact Int.emod_lt_of_pos _ (by omega)
      · have h3' : decide (((p : Int) + 1 - 1) < (bs.length : Int)) = false := by simp; omega
        have hx1 : p % bs.length < bs.length := Nat.mod_lt _ h20
        have hx2 : (p * 7 + 3) % bs.length < bs.length := Nat.mod_lt _ h20
        obtain ⟨g, off, rfl, hb⟩ := byte_cell hs1 hx1
        obtain ⟨g', off', e', hb'⟩ := byte_cell hs1 hx2
        obtain ⟨rfl, rfl⟩ : g = g' ∧ off = off' := by simpa using e'
        have hu : bs[p % bs.length].toNat < 256 := bs[p % bs.length].toNat_lt
        have hu' : bs[(p * 7 + 3) % bs.length].toNat < 256 := bs[(p * 7 + 3) % bs.length].toNat_lt
        generalize bs[p % bs.length].toNat = u at hb hu
        generalize bs[(p * 7 + 3) % bs.length].toNat = v at hb' hu'
        have hv1 : 0 ≤ (p : Int) / (bs.length : Int) := Int.ediv_nonneg (by omega) (by omega)
        have hv2 : (p : Int) / (bs.length : Int) ≤ (p : Int) := Int.ediv_le_self _ (by omega)
        have hi1 : ((p : Int) % (bs.length : Int)) < (bs.length : Int) := Int.emod_lt_of_pos _ (by omega)
        have hi2 : 0 ≤ ((p : Int) % (bs.length : Int)) := Int.emod_nonneg _ (by omega)
        have hi3 : (((p : Int) * 7 + 3) % (bs.length : Int)) < (bs.length : Int) := Int.emod_lt_of_pos _ (by omega)
        have hi4 : 0 ≤ (((p : Int) * 7 + 3) % (bs.length : Int)) := Int.emod_nonneg _ (by omega)
        have hd0 : (w.setCell ⟨rb, 1, none⟩ (.int .i64 ((p : Int) + 1))).cell? ⟨rb, 0, none⟩ = some (.slice (some ⟨g, off, none⟩) bs.length cap) := cell_off hc0 (by omega)
        have q0 := BW.cell hd0
        have q1 := BW.cell hb
        have q2 := BW.cell hb'
        go_enter Try.func76, Try.ntmps76
        go_wp2
        refine wp_region_bw (by kernel_rfl) (by kernel_rfl) ?_
        repeat (go_big_quiet_step (fail))
        refine wpQuiet_nil ?_
        rintro w1 ⟨⟨_, hbw⟩, rfl⟩
        go_wp2
        go_ret
        refine pick_fin ?_ ?_ ?_ ?_ h1 ⟨HD.out.below hbw, HR.out.below (by simpa using hlt) hbw⟩ <;> omega
end Go.Proofs.Ytlokkbllplhlbaa
