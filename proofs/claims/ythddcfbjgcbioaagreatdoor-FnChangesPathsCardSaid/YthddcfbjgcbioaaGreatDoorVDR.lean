/-
  What a drawing function reads from, and what it leaves behind. No program is in sight here. / Walks: the reader. / Walks: what is drawn of a list, a line, a text. / Walks: any text, a text turned. / Walks: the reader opened.
-/
import Derived.Test.YthddcfbjgcbioaaGreatDoorVB
import Derived.Test.YthddcfbjgcbioaaGreatDoorVTY
import Derived.Test.YthddcfbjgcbioaaGreatDoorVD
import Derived.Laws.Bits64
import Derived.Test.YthddcfbjgcbioaaGreatDoorVK
set_option linter.unusedVariables false
namespace Go.Vc
open Go.RowKit
open Rep (rd)
open Own (own)

/-- the reader in block rb: bytes that lie below it, and how many have been read -/
def RdOk (w : World) (rb N : Nat) : Prop :=
  ∃ (a : Option Addr) (cap p : Nat) (bs : List UInt8) (e : TypeId), w.heap[rb]? = some (.cells #[.slice a bs.length cap, .int .i64 p] e (0, 0)) ∧ p ≤ N ∧ IsSlice (fun b => b < rb) w a cap bs ∧ bs.length ≤ 2000
theorem RdOk.lt {w : World} {rb N : Nat} (h : RdOk w rb N) : rb < w.heap.size := by
  obtain ⟨_, _, _, _, _, hh, _⟩ := h
  exact (Array.getElem?_eq_some_iff.1 hh).1
theorem RdOk.mono {w : World} {rb N N' : Nat} (h : RdOk w rb N) (hN : N ≤ N') : RdOk w rb N' := by
  obtain ⟨a, cap, p, bs, e, hh, hp, r⟩ := h
  exact ⟨a, cap, p, bs, e, hh, by omega, r⟩
theorem RdOk.keep {w w' : World} {rb N : Nat} (h : RdOk w rb N) (hf : ∀ b, b ≤ rb → w'.heap[b]? = w.heap[b]?) : RdOk w' rb N := by
  obtain ⟨a, cap, p, bs, e, hh, hp, hs, hl⟩ := h
  exact ⟨a, cap, p, bs, e, (hf rb (Nat.le_refl _)).trans hh, hp, hs.frame fun b hb _ => ⟨hf b (by omega), hb⟩, hl⟩
theorem RdOk.below {w w' : World} {rb N B : Nat} (h : RdOk w rb N) (hB : rb < B) (hb : Below B w w') : RdOk w' rb N := h.keep fun b hl => hb.block b (by omega)
theorem RdOk.alloc {w : World} {rb N : Nat} (h : RdOk w rb N) (o : Obj) : RdOk (w.alloc o) rb N := h.keep fun b hl => Below.heap_alloc w o b (by have := h.lt; omega)

/-- w' is w with more memory; of what was there the reader alone may have changed -/
abbrev Drew (rb : Nat) (w w' : World) : Prop := TouchF [rb] w w'
theorem Drew.refl (rb : Nat) (w : World) : Drew rb w w := TouchF.refl _ _
theorem Drew.tr {rb : Nat} {a b c : World} (h : Drew rb a b) (k : Drew rb b c) : Drew rb a c := TouchF.trans h k fun _ hx => .inl hx
theorem Drew.below {rb : Nat} {a b c : World} (h : Drew rb a b) (k : Below b.heap.size b c) : Drew rb a c := TouchF.trans h (TouchF.of_below (F := []) k) fun _ hx => by cases hx
theorem Drew.belowB {rb B : Nat} {a b c : World} (h : Drew rb a b) (k : Below B b c) (hB : a.heap.size ≤ B) : Drew rb a c :=
  ⟨k.os.trans h.os, k.tape.trans h.tape, k.output.trans h.output, Nat.le_trans h.size k.size, fun x hx hxF => (k.block x (by omega)).trans (h.rest x hx hxF)⟩
theorem Drew.of {rb : Nat} {a b : World} (k : Below a.heap.size a b) : Drew rb a b := TouchF.of_below k
section
variable {α : Type} {rb : Nat} {w w' : World} {vs : List Value} {x : α}
theorem Drew.fresh [Own α] {B m : Nat} (h : Drew rb w w') (hz : Fresh B m w vs x) (hd : rb < B ∨ m ≤ rb) : Fresh B m w' vs x :=
  hz.keep fun b h1 h2 h3 => h.rest b h3 (by simp; omega)
theorem Drew.rdS [Rep α] {S : Nat → Prop} (h : Drew rb w w') (hz : rd S w vs x) (hd : ∀ b, S b → b ≠ rb) : rd S w' vs x :=
  Rep.frame (fun b h1 h2 => ⟨h.rest b h2 (by simpa using hd b h1), h1⟩) hz
theorem Drew.slice [Rep α] {S : Nat → Prop} {a : Option Addr} {cap : Nat} {xs : List α} (h : Drew rb w w') (hz : IsSlice S w a cap xs) (hd : ∀ b, S b → b ≠ rb) : IsSlice S w' a cap xs :=
  hz.frame fun b h1 h2 => ⟨h.rest b h2 (by simpa using hd b h1), h1⟩
/-- nothing below the reader has changed -/
theorem Drew.under (h : Drew rb w w') (hrb : rb < w.heap.size) : Below rb w w' := ⟨h.os, h.tape, h.output, h.size, fun k hk => h.rest k (by omega) (by simp; omega)⟩
theorem Drew.low {B : Nat} (h : Drew rb w w') (hB : B ≤ rb) (hrb : rb < w.heap.size) : Below B w w' := (h.under hrb).mono hB
end
end Go.Vc
namespace Go.Proofs.YthddcfbjgcbioaaGreatDoor
open Go.RowKit Go.Vc
open Go.Vc.Rep (rd)
open Go.Vc.Own (own)

theorem byte_cell {S : Nat → Prop} {w : World} {a : Option Addr} {cap : Nat} {xs : List UInt8} (h : IsSlice S w a cap xs) {i : Nat} (hi : i < xs.length) :
    ∃ g off, a = some ⟨g, off, none⟩ ∧ w.cell? ⟨g, off + i, none⟩ = some (.int .u8 xs[i].toNat) := by
  obtain ⟨g, off, us, h1, _, h3, h4⟩ := h.elem hi
  have e : us = [.int .u8 xs[i].toNat] := h4
  subst e
  refine ⟨g, off, h1, ?_⟩
  have := h3 0 _ rfl
  simpa [Rep.sz] using this

theorem xor_i64 (a b : Nat) (ha : a < 4611686018427387904) (hb : b < 4611686018427387904) : bits .xor .i64 (a : Int) (b : Int) = ((a ^^^ b : Nat) : Int) := by
  have hx : a ^^^ b < 2 ^ 62 := Nat.xor_lt_two_pow (by omega) (by omega)
  have h1 : (BitVec.ofInt 64 (a : Int)).toNat = a := by
    rw [BitVec.ofInt_natCast, BitVec.toNat_ofNat]; exact Nat.mod_eq_of_lt (by omega)
  have h2 : (BitVec.ofInt 64 (b : Int)).toNat = b := by
    rw [BitVec.ofInt_natCast, BitVec.toNat_ofNat]; exact Nat.mod_eq_of_lt (by omega)
  show IntKind.i64.wrap ((BitVec.ofInt 64 (a : Int) ^^^ BitVec.ofInt 64 (b : Int)).toNat : Int) = _
  rw [BitVec.toNat_xor, h1, h2]
  exact IntWalk.i64_in _ (by omega)
theorem pick_fin {x y n : Int} {R : Prop} (hx : 0 ≤ x) (hx' : x < 1000000000) (hy : 0 ≤ y) (hy' : y < 1000000000) (hn : 1 ≤ n) (hR : R) :
    ∃ k : Nat, Ending.returned (Value.int .i64 ((bits .xor .i64 x y).tmod n)) = .returned (.int .i64 k) ∧ ((k : Int) < n ∨ k = 0) ∧ R := by
  obtain ⟨a, rfl⟩ := Int.eq_ofNat_of_zero_le hx
  obtain ⟨b, rfl⟩ := Int.eq_ofNat_of_zero_le hy
  rw [xor_i64 a b (by omega) (by omega)]
  refine ⟨(((a ^^^ b : Nat) : Int) % n).toNat, ?_, ?_, hR⟩
  · rw [Int.toNat_of_nonneg (Int.emod_nonneg _ (by omega)), Int.tmod_eq_emod_of_nonneg (by omega)]
  · left
    rw [Int.toNat_of_nonneg (Int.emod_nonneg _ (by omega))]
    exact Int.emod_lt_of_pos _ (by omega)
theorem cell_off {w : World} {b i j : Nat} {x : Value} {v : Option Value} (h : w.cell? ⟨b, j, none⟩ = v) (hij : j ≠ i) : (w.setCell ⟨b, i, none⟩ x).cell? ⟨b, j, none⟩ = v :=
  (World.cell?_setCell_other w _ _ x (by simp <;> omega)).trans h

set_option maxHeartbeats 2000000 in
set_option maxRecDepth 100000 in
theorem pick_any (rb N : Nat) (n : Int) (w : World) (h : RdOk w rb N) (hN : N ≤ 1000000) (hn : n ≤ 1048576) :
    Calls Tryz.prog 16 #[.pointer (some ⟨rb, 0, none⟩), .int .i64 n] w fun e w' => ∃ k : Nat, e = .returned (.int .i64 k) ∧ ((k : Int) < n ∨ k = 0) ∧ Drew rb w w' ∧ RdOk w' rb (N + 1) := by
  obtain ⟨a, cap, p, bs, te, hh, hp, hs, hl⟩ := h
  have hlt : rb < w.heap.size := (Array.getElem?_eq_some_iff.1 hh).1
  have hc0 : w.cell? ⟨rb, 0, none⟩ = some (.slice a bs.length cap) := by rw [cell_of_row w rb 0 _ te (0, 0) hh]; rfl
  have hc1 : w.cell? ⟨rb, 1, none⟩ = some (.int .i64 p) := by rw [cell_of_row w rb 1 _ te (0, 0) hh]; rfl
  have hf1 : w.frozen? ⟨rb, 1, none⟩ = false := frozen_of_row w rb 1 _ te hh
  have hD : Drew rb w (w.setCell ⟨rb, 1, none⟩ (.int .i64 ((p : Int) + 1))) := (Drew.refl rb w).setCell (.inl (by simp)) _
  have hR : RdOk (w.setCell ⟨rb, 1, none⟩ (.int .i64 ((p : Int) + 1))) rb (N + 1) := by
    refine ⟨a, cap, p + 1, bs, te, ?_, by omega, hs.setCell (by simp), hl⟩
    rw [heap_setCell_same w rb 1 _ te _ hh]
    simp
  have hs1 : IsSlice (fun b => b < rb) (w.setCell ⟨rb, 1, none⟩ (.int .i64 ((p : Int) + 1))) a cap bs := hs.setCell (by simp)
  have HD := Lib.hid hD
  have HR := Lib.hid hR
  clear hD hR hh
  by_cases h1 : n < 1
  · go_enter Tryz.func16, Tryz.ntmps16
    go_wp2
    go_ret
    exact ⟨0, rfl, .inr rfl, HD.out, HR.out⟩
  · by_cases h2 : bs.length = 0
    · have h2' : ((bs.length : Int) == 0) = true := by rw [h2]; rfl
      have H2 := Lib.hid h2
      clear h2
      go_enter Tryz.func16, Tryz.ntmps16
      go_wp2
      go_ret
      exact ⟨0, rfl, .inr rfl, HD.out, HR.out⟩
    · have h2' : ((bs.length : Int) == 0) = false := by simp only [beq_eq_false_iff_ne, ne_eq]; omega
      have h20 : 0 < bs.length := by omega
      clear h2
      by_cases h3 : p < bs.length
      · obtain ⟨g, off, rfl, hb⟩ := byte_cell hs1 h3
        have h3' : decide (((p : Int) + 1 - 1) < (bs.length : Int)) = true := by simp; omega
        have hu : bs[p].toNat < 256 := bs[p].toNat_lt
        generalize bs[p].toNat = u at hb hu
        have h1' : n ≠ 0 := by omega
        go_enter Tryz.func16, Tryz.ntmps16
        go_wp2
        go_ret
        refine ⟨((u : Int) % n).toNat, ?_, ?_, HD.out, HR.out⟩
        · rw [Int.toNat_of_nonneg (Int.emod_nonneg _ h1')]; rfl
        · left
          rw [Int.toNat_of_nonneg (Int.emod_nonneg _ h1')]
          exact Int.emod_lt_of_pos _ (by omega)
      · have h3' : decide (((p : Int) + 1 - 1) < (bs.length : Int)) = false := by simp; omega
        have hx1 : p % bs.length < bs.length := Nat.mod_lt _ h20
        have hx2 : (p * 7 + 3) % bs.length < bs.length := Nat.mod_lt _ h20
        obtain ⟨g, off, rfl, hb⟩ := byte_cell hs1 hx1
        obtain ⟨g', off', e', hb'⟩ := byte_cell hs1 hx2
        obtain ⟨rfl, rfl⟩ : g = g' ∧ off = off' := by simpa using e'
        have hu : bs[p % bs.length].toNat < 256 := bs[p % bs.length].toNat_lt
        have hu' : bs[(p * 7 + 3) % bs.length].toNat < 256 := bs[(p * 7 + 3) % bs.length].toNat_lt
        generalize bs[p % bs.length].toNat = u at hb hu
        generalize bs[(p * 7 + 3) % bs.length].toNat = v at hb' hu'
        have hv1 : 0 ≤ (p : Int) / (bs.length : Int) := Int.ediv_nonneg (by omega) (by omega)
        have hv2 : (p : Int) / (bs.length : Int) ≤ (p : Int) := Int.ediv_le_self _ (by omega)
        have hi1 : ((p : Int) % (bs.length : Int)) < (bs.length : Int) := Int.emod_lt_of_pos _ (by omega)
        have hi2 : 0 ≤ ((p : Int) % (bs.length : Int)) := Int.emod_nonneg _ (by omega)
        have hi3 : (((p : Int) * 7 + 3) % (bs.length : Int)) < (bs.length : Int) := Int.emod_lt_of_pos _ (by omega)
        have hi4 : 0 ≤ (((p : Int) * 7 + 3) % (bs.length : Int)) := Int.emod_nonneg _ (by omega)
        have hd0 : (w.setCell ⟨rb, 1, none⟩ (.int .i64 ((p : Int) + 1))).cell? ⟨rb, 0, none⟩ = some (.slice (some ⟨g, off, none⟩) bs.length cap) := cell_off hc0 (by omega)
        have q0 := BW.cell hd0
        have q1 := BW.cell hb
        have q2 := BW.cell hb'
        go_enter Tryz.func16, Tryz.ntmps16
        go_wp2
        refine wp_region_bw (by kernel_rfl) (by kernel_rfl) ?_
        repeat (go_big_quiet_step (fail))
        refine wpQuiet_nil ?_
        rintro w1 ⟨⟨_, hbw⟩, rfl⟩
        go_wp2
        go_ret
        refine pick_fin ?_ ?_ ?_ ?_ h1 ⟨HD.out.below hbw, HR.out.below (by simpa using hlt) hbw⟩ <;> omega
end Go.Proofs.YthddcfbjgcbioaaGreatDoor
namespace Go.Proofs.YthddcfbjgcbioaaGreatDoor
open Go.RowKit Go.Vc
open Go.Vc.Rep (rd)
open Go.Vc.Own (own)

set_option maxHeartbeats 1000000 in
theorem of_any {S : Nat → Prop} (rb N : Nat) (v : Value) (xs : List ByteArray) (w : World) (h : RdOk w rb N) (hN : N ≤ 1000000) (hv : rd S w [v] xs) (hS : ∀ b, S b → b ≠ rb) (h0 : 0 < xs.length) (hx : xs.length ≤ 1048576) :
    Calls Tryz.prog 57 #[.pointer (some ⟨rb, 0, none⟩), v] w fun e w' => ∃ s, e = .returned (.string s) ∧ s ∈ xs ∧ s.size ≤ maxLen ∧ Drew rb w w' ∧ RdOk w' rb (N + 1) := by
  obtain ⟨a, cap, rfl, hs⟩ := rd_slice_elim hv
  go_enter Tryz.func57, Tryz.ntmps57
  go_wp2_with fail
  refine (pick_any rb N _ _ h hN (by omega)).mono ?_
  rintro e w1 ⟨k, rfl, hk, hd, hr⟩
  have hlt : k < xs.length := by omega
  obtain ⟨g, off, rfl, hc, hsz⟩ := (hd.slice hs hS).str hlt
  go_wp2
  go_ret
  exact ⟨_, rfl, List.getElem_mem hlt, hsz, hd, hr⟩

set_option maxHeartbeats 1000000 in
theorem one_any {S : Nat → Prop} (rb N : Nat) (v : Value) (xs : List Int) (w : World) (h : RdOk w rb N) (hN : N ≤ 1000000) (hv : rd S w [v] xs) (hS : ∀ b, S b → b ≠ rb) (h0 : 0 < xs.length) (hx : xs.length ≤ 1048576) :
    Calls Tryz.prog 38 #[.pointer (some ⟨rb, 0, none⟩), v] w fun e w' => ∃ s, e = .returned (.int .i64 s) ∧ s ∈ xs ∧ Drew rb w w' ∧ RdOk w' rb (N + 1) := by
  obtain ⟨a, cap, rfl, hs⟩ := rd_slice_elim hv
  go_enter Tryz.func38, Tryz.ntmps38
  go_wp2_with fail
  refine (pick_any rb N _ _ h hN (by omega)).mono ?_
  rintro e w1 ⟨k, rfl, hk, hd, hr⟩
  have hlt : k < xs.length := by omega
  obtain ⟨g, off, rfl, hc, hsz⟩ := (hd.slice hs hS).int hlt
  go_wp2
  go_ret
  exact ⟨_, rfl, List.getElem_mem hlt, hd, hr⟩

set_option maxHeartbeats 1000000 in
theorem l30Line_any (rb N : Nat) (w : World) (h : RdOk w rb N) (hN : N ≤ 1000000) :
    Calls Tryz.prog 63 #[.pointer (some ⟨rb, 0, none⟩)] w fun e w' => ∃ s, e = .returned (.string s) ∧ s.size ≤ maxLen ∧ Drew rb w w' ∧ RdOk w' rb (N + 1) := by
  have hlt := h.lt
  go_enter Tryz.func63, Tryz.ntmps63
  go_wp2_with fail
  refine (of_any (S := fun b => b = w.heap.size) rb N _ [⟨#[97]⟩, ⟨#[98]⟩, ⟨#[99]⟩, ⟨#[100]⟩, ⟨#[]⟩, ⟨#[120, 32, 121]⟩, ⟨#[115, 101, 101, 32, 97]⟩, ⟨#[115, 101, 101, 32, 100, 47, 101]⟩, ⟨#[101, 110, 100]⟩] _ (h.alloc _) hN
    (lit_strs _ (heap_alloc_new _ _) (by decide) (by decide)).rd (by intro b hb; omega) (by decide) (by decide)).mono ?_
  rintro e w1 ⟨s, rfl, _, hs, hd, hr⟩
  go_wp2
  go_ret
  exact ⟨s, rfl, hs, (Drew.of ((Below.refl _ _).alloc (Nat.le_refl _) _)).tr hd, hr⟩

set_option maxHeartbeats 1000000 in
theorem l30Text_any (rb N : Nat) (w : World) (h : RdOk w rb N) (hN : N ≤ 999000) :
    Calls Tryz.prog 56 #[.pointer (some ⟨rb, 0, none⟩)] w fun e w' => ∃ (v : Value) (xs : List ByteArray), e = .returned v ∧ xs.length ≤ 8 ∧ Fresh w.heap.size w'.heap.size w' [v] xs ∧ Drew rb w w' ∧ RdOk w' rb (N + 20) := by
  have hlt := h.lt
  go_enter Tryz.func56, Tryz.ntmps56
  go_wp2_with fail
  refine (one_any (S := fun b => b = w.heap.size + 1) rb N _ [0, 1, 3, 5, 8] _ ((h.alloc _).alloc _) (by omega)
    (lit_ints _ (heap_new_at (by simp)) (by intro s hs; simp at hs; unfold I64; omega) (by decide)).rd (by intro b hb; omega) (by decide) (by decide)).mono ?_
  rintro e w1 ⟨s, rfl, hs, hd, hr⟩
  obtain ⟨k, rfl, hk⟩ : ∃ k : Nat, s = (k : Int) ∧ k ≤ 8 := ⟨s.toNat, by simp at hs; omega, by simp at hs; omega⟩
  have hd0 : Drew rb w w1 := (Drew.of (((Below.refl _ _).alloc (Nat.le_refl _) _).alloc (by simp) _)).tr hd
  have hF0 : Fresh w.heap.size w1.heap.size w1 [.slice (some ⟨w.heap.size, 0, none⟩) 0 0] ([] : List ByteArray) :=
    (hd.fresh ((Fresh.empty (by decide) _ _ (Nat.le_refl _)).alloc _) (.inl hlt)).now
  clear hs hd
  go_wp2
  go_loopw [3, 4] (fun out n wr => (∃ (xs : List ByteArray) (k : Nat), n = .int .i64 k ∧ xs.length + k ≤ 8 ∧ Fresh w.heap.size wr.heap.size wr [out] xs ∧ RdOk wr rb (N + 1 + xs.length)) ∧ Drew rb w wr) (fun _ n _ => (intOf n).toNat)
  case atStart => exact ⟨⟨[], k, rfl, by simpa using hk, hF0, hr⟩, hd0⟩
  case round =>
    obtain ⟨⟨xs, k, rfl, hk, hF, hr⟩, hd⟩ := hrel
    have hsz := hd.size
    by_cases hlt2 : 0 < k
    · go_wp2_with fail
      refine (l30Line_any rb _ _ hr (by omega)).mono ?_
      rintro e w2 ⟨s, rfl, hs, hd2, hr2⟩
      have hF2 := (hd2.fresh hF (.inl hlt)).now
      have hd3 := hd.tr hd2
      have hsz3 := hd3.size
      have hsrc : IsSlice (fun b => b = w2.heap.size) (w2.alloc (.cells #[.string s] (Tid.tid ByteArray))) (some ⟨w2.heap.size, 0, none⟩) 1 [s] := lit_strs [s] (heap_alloc_new _ _) (by simpa using hs) (by unfold maxLen; simp)
      go_wp2_with (at_builtin; go_must (refine wpList_app_leaf slz_string.slt rfl (.tmp 13) (.tmp 16) rfl rfl (hF2.alloc _) (le_alloc hsz3 _) rfl rfl hsrc (by simp <;> omega) (by unfold maxLen; simp <;> omega) ?_); intro a4 c4 w4 hG4)
      go_roundw
      case rel => exact ⟨⟨xs ++ [s], k - 1, by go_num, by simp; omega, hG4.fresh, ((hr2.alloc _).below hlt hG4.below).mono (by simp; omega)⟩, (hd3.belowB ((Below.refl _ _).alloc (Nat.le_refl _) _) hsz3).belowB hG4.below (Nat.le_refl _)⟩
      case measure => simp [intOf]; omega
    · go_wp2
      go_ret
      exact ⟨_, xs, rfl, by omega, hF, hd, hr.mono (by omega)⟩
end Go.Proofs.YthddcfbjgcbioaaGreatDoor
namespace Go.Proofs.YthddcfbjgcbioaaGreatDoor
open Go.RowKit Go.Vc
open Go.Vc.Rep (rd)
open Go.Vc.Own (own)

theorem nat_eq_f {k : Nat} {n : Nat} (h : k ≠ n) : ((k : Int) == (n : Int)) = false := by simp only [beq_eq_false_iff_ne, ne_eq]; omega

set_option maxHeartbeats 1000000 in
theorem l30AnyText_any (rb N : Nat) (w : World) (h : RdOk w rb N) (hN : N ≤ 990000) :
    Calls Tryz.prog 36 #[.pointer (some ⟨rb, 0, none⟩)] w fun e w' => ∃ (v : Value) (xs : List ByteArray), e = .returned v ∧ xs.length ≤ 18 ∧ Fresh w.heap.size w'.heap.size w' [v] xs ∧ Drew rb w w' ∧ RdOk w' rb (N + 30) := by
  have hlt := h.lt
  go_enter Tryz.func36, Tryz.ntmps36
  go_wp2_with fail
  refine (l30Text_any rb N _ h (by omega)).mono ?_
  rintro e w1 ⟨v, xs, rfl, hx, hF, hd, hr⟩
  obtain ⟨a, c, rfl, _⟩ := hF.shape
  have hsz := hd.size
  go_wp2_with fail
  refine (pick_any rb _ _ _ hr (by omega) (by omega)).mono ?_
  rintro e w2 ⟨k, rfl, hk, hd2, hr2⟩
  have hF2 := (hd2.fresh hF (.inl hlt)).now
  have hd3 := hd.tr hd2
  have hsz3 := hd3.size
  by_cases h0 : k = 0
  · subst h0
    go_wp2_with fail
    refine (of_any (S := fun b => b = w2.heap.size) rb _ _ [⟨#[97, 32, 108, 105, 110, 101, 32, 116, 111, 111, 32, 108, 111, 110, 103]⟩, ⟨#[120, 10, 121]⟩, ⟨#[255]⟩] _ (hr2.alloc _) (by omega)
      (lit_strs _ (heap_alloc_new _ _) (by decide) (by decide)).rd (by intro b hb; omega) (by decide) (by decide)).mono ?_
    rintro e w4 ⟨s, rfl, _, hs, hd4, hr4⟩
    have hF4 := (hd4.fresh (hF2.alloc _) (.inl hlt)).now
    have hd5 := (hd3.belowB ((Below.refl _ _).alloc (Nat.le_refl _) _) hsz3).tr hd4
    have hsz5 := hd5.size
    have hsrc : IsSlice (fun b => b = w4.heap.size) (w4.alloc (.cells #[.string s] (Tid.tid ByteArray))) (some ⟨w4.heap.size, 0, none⟩) 1 [s] := lit_strs [s] (heap_alloc_new _ _) (by simpa using hs) (by unfold maxLen; simp)
    go_wp2_with (at_builtin; go_must (refine wpList_app_leaf slz_string.slt rfl (.tmp 10) (.tmp 14) rfl rfl (hF4.alloc _) (le_alloc hsz5 _) rfl rfl hsrc (by simp <;> omega) (by unfold maxLen; simp <;> omega) ?_); intro a4 c4 w6 hG4)
    go_ret
    exact ⟨_, xs ++ [s], rfl, by simp; omega, hG4.fresh, (hd5.belowB ((Below.refl _ _).alloc (Nat.le_refl _) _) hsz5).belowB hG4.below (Nat.le_refl _), ((hr4.alloc _).below hlt hG4.below).mono (by omega)⟩
  · have h0' := nat_eq_f h0
    by_cases h1 : k = 1
    · subst h1
      have hsrc := lit_strs (w := w2.alloc (.cells #[.string ⟨#[49]⟩, .string ⟨#[50]⟩, .string ⟨#[51]⟩, .string ⟨#[52]⟩, .string ⟨#[53]⟩, .string ⟨#[54]⟩, .string ⟨#[55]⟩, .string ⟨#[56]⟩, .string ⟨#[57]⟩, .string ⟨#[49, 48]⟩] (Tid.tid ByteArray))) [⟨#[49]⟩, ⟨#[50]⟩, ⟨#[51]⟩, ⟨#[52]⟩, ⟨#[53]⟩, ⟨#[54]⟩, ⟨#[55]⟩, ⟨#[56]⟩, ⟨#[57]⟩, ⟨#[49, 48]⟩] (heap_alloc_new _ _) (by decide) (by decide)
      go_wp2_with (at_builtin; go_must (refine wpList_app_leaf slz_string.slt rfl (.tmp 18) (.tmp 19) rfl rfl (hF2.alloc _) (le_alloc hsz3 _) rfl rfl hsrc (by simp <;> omega) (by unfold maxLen; simp <;> omega) ?_); intro a4 c4 w6 hG4)
      go_ret
      exact ⟨_, _, rfl, by simp; omega, hG4.fresh, (hd3.belowB ((Below.refl _ _).alloc (Nat.le_refl _) _) hsz3).belowB hG4.below (Nat.le_refl _), ((hr2.alloc _).below hlt hG4.below).mono (by omega)⟩
    · have h1' := nat_eq_f h1
      go_wp2
      go_ret
      exact ⟨_, xs, rfl, by omega, hF2, hd3, hr2.mono (by omega)⟩
end Go.Proofs.YthddcfbjgcbioaaGreatDoor
namespace Go.Proofs.YthddcfbjgcbioaaGreatDoor
open Go.RowKit Go.Vc
open Go.Vc.Rep (rd)
open Go.Vc.Own (own)

theorem slt_byte : SlT Tryz.prog 22 UInt8 1 := by
  obtain ⟨i, h1, h2, h3, h4⟩ := info_parts (show (Tryz.prog.info? 5).map (fun i => (i.zero, i.size, i.bytes)) = some (some (.int .u8 0), 1, 1) by kernel_rfl)
  exact ⟨Tryz.underlying22, ⟨i, _, h1, h2, h3, h4, rfl⟩, Nat.one_pos⟩

set_option maxHeartbeats 1000000 in
theorem l30Open_any {S : Nat → Prop} (v : Value) (bs : List UInt8) (w : World) (hv : rd S w [v] bs) (hl : bs.length ≤ 1048576) :
    Calls Tryz.prog 13 #[v] w fun e w' => e = .returned (.pointer (some ⟨w.heap.size, 0, none⟩)) ∧ RdOk w' w.heap.size 0 ∧ Below w.heap.size w w' ∧ w'.heap.size = w.heap.size + 1 := by
  obtain ⟨a, cap, rfl, hs⟩ := rd_slice_elim (Rep.lt hv)
  by_cases h2 : 2000 < bs.length
  · have hct : ∀ w, (Instr.slice 22 (.slice a bs.length cap) none (some (.int .i64 2000)) none).run Tryz.prog w = .ok (.slice a 2000 cap) w := fun w => run_cut0 slt_byte a bs.length cap 2000 (by have := hs.1; omega) w
    have hcl : (bs.take 2000).length = 2000 := by simp; omega
    have hs2 := (hs.take 2000).alloc (.cells #[.slice a 2000 cap, .int .i64 0] 59)
    go_enter Tryz.func13, Tryz.ntmps13
    go_wp2
    go_ret
    exact ⟨rfl, ⟨a, cap, 0, bs.take 2000, _, (by rw [hcl]; exact heap_alloc_new _ _), Nat.le_refl _, hs2, by omega⟩, ((Below.refl _ _).alloc (by simp <;> omega) _), by simp⟩
  · have hs2 := hs.alloc (.cells #[.slice a bs.length cap, .int .i64 0] 59)
    go_enter Tryz.func13, Tryz.ntmps13
    go_wp2
    go_ret
    exact ⟨rfl, ⟨a, cap, 0, bs, _, heap_alloc_new _ _, Nat.le_refl _, hs2, by omega⟩, ((Below.refl _ _).alloc (by simp <;> omega) _), by simp⟩

end Go.Proofs.YthddcfbjgcbioaaGreatDoor
