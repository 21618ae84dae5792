/-
  What a drawing function reads from, and what it leaves behind. No program is in sight here. / Walks: the reader. / Walks: what is drawn of a list, a line, a text. / Walks: any text, a text turned. / Walks: the reader opened. / Walks: a text turned.
-/
import Derived.Test.YthhmaclhggmneaaDoorVB
import Derived.Test.YthhmaclhggmneaaDoorVTY
import Derived.Test.YthhmaclhggmneaaDoorVD
import Derived.Laws.Bits64
import Derived.Test.YthhmaclhggmneaaDoorVK
set_option linter.unusedVariables false
namespace Go.Vc
open Go.RowKit
open Rep (rd)
open Own (own)

/-- the reader in block rb: bytes that lie below it, and how many have been read -/
def RdOk (w : World) (rb N : Nat) : Prop :=
  ∃ (a : Option Addr) (cap p : Nat) (bs : List UInt8) (e : TypeId), w.heap[rb]? = some (.cells #[.slice a bs.length cap, .int .i64 p] e (0, 0)) ∧ p ≤ N ∧ IsSlice (fun b => b < rb) w a cap bs ∧ bs.length ≤ 2000
theorem RdOk.lt {w : World} {rb N : Nat} (h : RdOk w rb N) : rb < w.heap.size := by
  obtain ⟨_, _, _, _, _, hh, _⟩ := h
  exact (Array.getElem?_eq_some_iff.1 hh).1
theorem RdOk.mono {w : World} {rb N N' : Nat} (h : RdOk w rb N) (hN : N ≤ N') : RdOk w rb N' := by
  obtain ⟨a, cap, p, bs, e, hh, hp, r⟩ := h
  exact ⟨a, cap, p, bs, e, hh, by omega, r⟩
theorem RdOk.keep {w w' : World} {rb N : Nat} (h : RdOk w rb N) (hf : ∀ b, b ≤ rb → w'.heap[b]? = w.heap[b]?) : RdOk w' rb N := by
  obtain ⟨a, cap, p, bs, e, hh, hp, hs, hl⟩ := h
  exact ⟨a, cap, p, bs, e, (hf rb (Nat.le_refl _)).trans hh, hp, hs.frame fun b hb _ => ⟨hf b (by omega), hb⟩, hl⟩
theorem RdOk.below {w w' : World} {rb N B : Nat} (h : RdOk w rb N) (hB : rb < B) (hb : Below B w w') : RdOk w' rb N := h.keep fun b hl => hb.block b (by omega)
theorem RdOk.alloc {w : World} {rb N : Nat} (h : RdOk w rb N) (o : Obj) : RdOk (w.alloc o) rb N := h.keep fun b hl => Below.heap_alloc w o b (by have := h.lt; omega)

/-- w' is w with more memory; of what was there the reader alone may have changed -/
abbrev Drew (rb : Nat) (w w' : World) : Prop := TouchF [rb] w w'
theorem Drew.refl (rb : Nat) (w : World) : Drew rb w w := TouchF.refl _ _
theorem Drew.tr {rb : Nat} {a b c : World} (h : Drew rb a b) (k : Drew rb b c) : Drew rb a c := TouchF.trans h k fun _ hx => .inl hx
theorem Drew.below {rb : Nat} {a b c : World} (h : Drew rb a b) (k : Below b.heap.size b c) : Drew rb a c := TouchF.trans h (TouchF.of_below (F := []) k) fun _ hx => by cases hx
theorem Drew.belowB {rb B : Nat} {a b c : World} (h : Drew rb a b) (k : Below B b c) (hB : a.heap.size ≤ B) : Drew rb a c :=
  ⟨k.os.trans h.os, k.tape.trans h.tape, k.output.trans h.output, Nat.le_trans h.size k.size, fun x hx hxF => (k.block x (by omega)).trans (h.rest x hx hxF)⟩
theorem Drew.of {rb : Nat} {a b : World} (k : Below a.heap.size a b) : Drew rb a b := TouchF.of_below k
section
variable {α : Type} {rb : Nat} {w w' : World} {vs : List Value} {x : α}
theorem Drew.fresh [Own α] {B m : Nat} (h : Drew rb w w') (hz : Fresh B m w vs x) (hd : rb < B ∨ m ≤ rb) : Fresh B m w' vs x :=
  hz.keep fun b h1 h2 h3 => h.rest b h3 (by simp; omega)
theorem Drew.rdS [Rep α] {S : Nat → Prop} (h : Drew rb w w') (hz : rd S w vs x) (hd : ∀ b, S b → b ≠ rb) : rd S w' vs x :=
  Rep.frame (fun b h1 h2 => ⟨h.rest b h2 (by simpa using hd b h1), h1⟩) hz
theorem Drew.slice [Rep α] {S : Nat → Prop} {a : Option Addr} {cap : Nat} {xs : List α} (h : Drew rb w w') (hz : IsSlice S w a cap xs) (hd : ∀ b, S b → b ≠ rb) : IsSlice S w' a cap xs :=
  hz.frame fun b h1 h2 => ⟨h.rest b h2 (by simpa using hd b h1), h1⟩
/-- nothing below the reader has changed -/
theorem Drew.under (h : Drew rb w w') (hrb : rb < w.heap.size) : Below rb w w' := ⟨h.os, h.tape, h.output, h.size, fun k hk => h.rest k (by omega) (by simp; omega)⟩
theorem Drew.low {B : Nat} (h : Drew rb w w') (hB : B ≤ rb) (hrb : rb < w.heap.size) : Below B w w' := (h.under hrb).mono hB
end
end Go.Vc
namespace Go.Proofs.YthhmaclhggmneaaDoor
open Go.RowKit Go.Vc
open Go.Vc.Rep (rd)
open Go.Vc.Own (own)

theorem byte_cell {S : Nat → Prop} {w : World} {a : Option Addr} {cap : Nat} {xs : List UInt8} (h : IsSlice S w a cap xs) {i : Nat} (hi : i < xs.length) :
    ∃ g off, a = some ⟨g, off, none⟩ ∧ w.cell? ⟨g, off + i, none⟩ = some (.int .u8 xs[i].toNat) := by
  obtain ⟨g, off, us, h1, _, h3, h4⟩ := h.elem hi
  have e : us = [.int .u8 xs[i].toNat] := h4
  subst e
  refine ⟨g, off, h1, ?_⟩
  have := h3 0 _ rfl
  simpa [Rep.sz] using this

theorem xor_i64 (a b : Nat) (ha : a < 4611686018427387904) (hb : b < 4611686018427387904) : bits .xor .i64 (a : Int) (b : Int) = ((a ^^^ b : Nat) : Int) := by
  have hx : a ^^^ b < 2 ^ 62 := Nat.xor_lt_two_pow (by omega) (by omega)
  have h1 : (BitVec.ofInt 64 (a : Int)).toNat = a := by
    rw [BitVec.ofInt_natCast, BitVec.toNat_ofNat]; exact Nat.mod_eq_of_lt (by omega)
  have h2 : (BitVec.ofInt 64 (b : Int)).toNat = b := by
    rw [BitVec.ofInt_natCast, BitVec.toNat_ofNat]; exact Nat.mod_eq_of_lt (by omega)
  show IntKind.i64.wrap ((BitVec.ofInt 64 (a : Int) ^^^ BitVec.ofInt 64 (b : Int)).toNat : Int) = _
  rw [BitVec.toNat_xor, h1, h2]
  exact IntWalk.i64_in _ (by omega)
theorem pick_fin {x y n : Int} {R : Prop} (hx : 0 ≤ x) (hx' : x < 1000000000) (hy : 0 ≤ y) (hy' : y < 1000000000) (hn : 1 ≤ n) (hR : R) :
    ∃ k : Nat, Ending.returned (Value.int .i64 ((bits .xor .i64 x y).tmod n)) = .returned (.int .i64 k) ∧ ((k : Int) < n ∨ k = 0) ∧ R := by
  obtain ⟨a, rfl⟩ := Int.eq_ofNat_of_zero_le hx
  obtain ⟨b, rfl⟩ := Int.eq_ofNat_of_zero_le hy
  rw [xor_i64 a b (by omega) (by omega)]
  refine ⟨(((a ^^^ b : Nat) : Int) % n).toNat, ?_, ?_, hR⟩
  · rw [Int.toNat_of_nonneg (Int.emod_nonneg _ (by omega)), Int.tmod_eq_emod_of_nonneg (by omega)]
  · left
    rw [Int.toNat_of_nonneg (Int.emod_nonneg _ (by omega))]
    exact Int.emod_lt_of_pos _ (by omega)
theorem cell_off {w : World} {b i j : Nat} {x : Value} {v : Option Value} (h : w.cell? ⟨b, j, none⟩ = v) (hij : j ≠ i) : (w.setCell ⟨b, i, none⟩ x).cell? ⟨b, j, none⟩ = v :=
  (World.cell?_setCell_other w _ _ x (by simp <;> omega)).trans h

set_option maxHeartbeats 2000000 in
set_option maxRecDepth 100000 in
theorem pick_any (rb N : Nat) (n : Int) (w : World) (h : RdOk w rb N) (hN : N ≤ 1000000) (hn : n ≤ 1048576) :
    Calls Tryd.prog 54 #[.pointer (some ⟨rb, 0, none⟩), .int .i64 n] w fun e w' => ∃ k : Nat, e = .returned (.int .i64 k) ∧ ((k : Int) < n ∨ k = 0) ∧ Drew rb w w' ∧ RdOk w' rb (N + 1) := by
  obtain ⟨a, cap, p, bs, te, hh, hp, hs, hl⟩ := h
  have hlt : rb < w.heap.size := (Array.getElem?_eq_some_iff.1 hh).1
  have hc0 : w.cell? ⟨rb, 0, none⟩ = some (.slice a bs.length cap) := by rw [cell_of_row w rb 0 _ te (0, 0) hh]; rfl
  have hc1 : w.cell? ⟨rb, 1, none⟩ = some (.int .i64 p) := by rw [cell_of_row w rb 1 _ te (0, 0) hh]; rfl
  have hf1 : w.frozen? ⟨rb, 1, none⟩ = false := frozen_of_row w rb 1 _ te hh
  have hD : Drew rb w (w.setCell ⟨rb, 1, none⟩ (.int .i64 ((p : Int) + 1))) := (Drew.refl rb w).setCell (.inl (by simp)) _
  have hR : RdOk (w.setCell ⟨rb, 1, none⟩ (.int .i64 ((p : Int) + 1))) rb (N + 1) := by
    refine ⟨a, cap, p + 1, bs, te, ?_, by omega, hs.setCell (by simp), hl⟩
    rw [heap_setCell_same w rb 1 _ te _ hh]
    simp
  have hs1 : IsSlice (fun b => b < rb) (w.setCell ⟨rb, 1, none⟩ (.int .i64 ((p : Int) + 1))) a cap bs := hs.setCell (by simp)
  have HD := Lib.hid hD
  have HR := Lib.hid hR
  clear hD hR hh
  by_cases h1 : n < 1
  · go_enter Tryd.func54, Tryd.ntmps54
    go_wp2
    go_ret
    exact ⟨0, rfl, .inr rfl, HD.out, HR.out⟩
  · by_cases h2 : bs.length = 0
    · have h2' : ((bs.length : Int) == 0) = true := by rw [h2]; rfl
      have H2 := Lib.hid h2
      clear h2
      go_enter Tryd.func54, Tryd.ntmps54
      go_wp2
      go_ret
      exact ⟨0, rfl, .inr rfl, HD.out, HR.out⟩
    · have h2' : ((bs.length : Int) == 0) = false := by simp only [beq_eq_false_iff_ne, ne_eq]; omega
      have h20 : 0 < bs.length := by omega
      clear h2
      by_cases h3 : p < bs.length
      · obtain ⟨g, off, rfl, hb⟩ := byte_cell hs1 h3
        have h3' : decide (((p : Int) + 1 - 1) < (bs.length : Int)) = true := by simp; omega
        have hu : bs[p].toNat < 256 := bs[p].toNat_lt
        generalize bs[p].toNat = u at hb hu
        have h1' : n ≠ 0 := by omega
        go_enter Tryd.func54, Tryd.ntmps54
        go_wp2
        go_ret
        refine ⟨((u : Int) % n).toNat, ?_, ?_, HD.out, HR.out⟩
        · rw [Int.toNat_of_nonneg (Int.emod_nonneg _ h1')]; rfl
        · left
          rw [Int.toNat_of_nonneg (Int.emod_nonneg _ h1')]
          exact Int.emod_lt_of_pos _ (by omega)
      · have h3' : decide (((p : Int) + 1 - 1) < (bs.length : Int)) = false := by simp; omega
        have hx1 : p % bs.length < bs.length := Nat.mod_lt _ h20
        have hx2 : (p * 7 + 3) % bs.length < bs.length := Nat.mod_lt _ h20
        obtain ⟨g, off, rfl, hb⟩ := byte_cell hs1 hx1
        obtain ⟨g', off', e', hb'⟩ := byte_cell hs1 hx2
        obtain ⟨rfl, rfl⟩ : g = g' ∧ off = off' := by simpa using e'
        have hu : bs[p % bs.length].toNat < 256 := bs[p % bs.length].toNat_lt
        have hu' : bs[(p * 7 + 3) % bs.length].toNat < 256 := bs[(p * 7 + 3) % bs.length].toNat_lt
        generalize bs[p % bs.length].toNat = u at hb hu
        generalize bs[(p * 7 + 3) % bs.length].toNat = v at hb' hu'
        have hv1 : 0 ≤ (p : Int) / (bs.length : Int) := Int.ediv_nonneg (by omega) (by omega)
        have hv2 : (p : Int) / (bs.length : Int) ≤ (p : Int) := Int.ediv_le_self _ (by omega)
        have hi1 : ((p : Int) % (bs.length : Int)) < (bs.length : Int) := Int.emod_lt_of_pos _ (by omega)
        have hi2 : 0 ≤ ((p : Int) % (bs.length : Int)) := Int.emod_nonneg _ (by omega)
        have hi3 : (((p : Int) * 7 + 3) % (bs.length : Int)) < (bs.length : Int) := Int.emod_lt_of_pos _ (by omega)
        have hi4 : 0 ≤ (((p : Int) * 7 + 3) % (bs.length : Int)) := Int.emod_nonneg _ (by omega)
        have hd0 : (w.setCell ⟨rb, 1, none⟩ (.int .i64 ((p : Int) + 1))).cell? ⟨rb, 0, none⟩ = some (.slice (some ⟨g, off, none⟩) bs.length cap) := cell_off hc0 (by omega)
        have q0 := BW.cell hd0
        have q1 := BW.cell hb
        have q2 := BW.cell hb'
        go_enter Tryd.func54, Tryd.ntmps54
        go_wp2
        refine wp_region_bw (by kernel_rfl) (by kernel_rfl) ?_
        repeat (go_big_quiet_step (fail))
        refine wpQuiet_nil ?_
        rintro w1 ⟨⟨_, hbw⟩, rfl⟩
        go_wp2
        go_ret
        refine pick_fin ?_ ?_ ?_ ?_ h1 ⟨HD.out.below hbw, HR.out.below (by simpa using hlt) hbw⟩ <;> omega
end Go.Proofs.YthhmaclhggmneaaDoor
namespace Go.Proofs.YthhmaclhggmneaaDoor
open Go.RowKit Go.Vc
open Go.Vc.Rep (rd)
open Go.Vc.Own (own)

set_option maxHeartbeats 1000000 in
theorem of_any {S : Nat → Prop} (rb N : Nat) (v : Value) (xs : List ByteArray) (w : World) (h : RdOk w rb N) (hN : N ≤ 1000000) (hv : rd S w [v] xs) (hS : ∀ b, S b → b ≠ rb) (h0 : 0 < xs.length) (hx : xs.length ≤ 1048576) :
    Calls Tryd.prog 91 #[.pointer (some ⟨rb, 0, none⟩), v] w fun e w' => ∃ s, e = .returned (.string s) ∧ s ∈ xs ∧ s.size ≤ maxLen ∧ Drew rb w w' ∧ RdOk w' rb (N + 1) := by
  obtain ⟨a, cap, rfl, hs⟩ := rd_slice_elim hv
  go_enter Tryd.func91, Tryd.ntmps91
  go_wp2_with fail
  refine (pick_any rb N _ _ h hN (by omega)).mono ?_
  rintro e w1 ⟨k, rfl, hk, hd, hr⟩
  have hlt : k < xs.length := by omega
  obtain ⟨g, off, rfl, hc, hsz⟩ := (hd.slice hs hS).str hlt
  go_wp2
  go_ret
  exact ⟨_, rfl, List.getElem_mem hlt, hsz, hd, hr⟩

set_option maxHeartbeats 1000000 in
theorem one_any {S : Nat → Prop} (rb N : Nat) (v : Value) (xs : List Int) (w : World) (h : RdOk w rb N) (hN : N ≤ 1000000) (hv : rd S w [v] xs) (hS : ∀ b, S b → b ≠ rb) (h0 : 0 < xs.length) (hx : xs.length ≤ 1048576) :
    Calls Tryd.prog 89 #[.pointer (some ⟨rb, 0, none⟩), v] w fun e w' => ∃ s, e = .returned (.int .i64 s) ∧ s ∈ xs ∧ Drew rb w w' ∧ RdOk w' rb (N + 1) := by
  obtain ⟨a, cap, rfl, hs⟩ := rd_slice_elim hv
  go_enter Tryd.func89, Tryd.ntmps89
  go_wp2_with fail
  refine (pick_any rb N _ _ h hN (by omega)).mono ?_
  rintro e w1 ⟨k, rfl, hk, hd, hr⟩
  have hlt : k < xs.length := by omega
  obtain ⟨g, off, rfl, hc, hsz⟩ := (hd.slice hs hS).int hlt
  go_wp2
  go_ret
  exact ⟨_, rfl, List.getElem_mem hlt, hd, hr⟩

set_option maxHeartbeats 1000000 in
theorem l30Line_any (rb N : Nat) (w : World) (h : RdOk w rb N) (hN : N ≤ 1000000) :
    Calls Tryd.prog 90 #[.pointer (some ⟨rb, 0, none⟩)] w fun e w' => ∃ s, e = .returned (.string s) ∧ s.size ≤ maxLen ∧ Drew rb w w' ∧ RdOk w' rb (N + 1) := by
  have hlt := h.lt
  go_enter Tryd.func90, Tryd.ntmps90
  go_wp2_with fail
  refine (of_any (S := fun b => b = w.heap.size) rb N _ [⟨#[97]⟩, ⟨#[98]⟩, ⟨#[99]⟩, ⟨#[100]⟩, ⟨#[]⟩, ⟨#[120, 32, 121]⟩, ⟨#[115, 101, 101, 32, 97]⟩, ⟨#[115, 101, 101, 32, 100, 47, 101]⟩, ⟨#[101, 110, 100]⟩] _ (h.alloc _) hN
    (lit_strs _ (heap_alloc_new _ _) (by decide) (by decide)).rd (by intro b hb; omega) (by decide) (by decide)).mono ?_
  rintro e w1 ⟨s, rfl, _, hs, hd, hr⟩
  go_wp2
  go_ret
  exact ⟨s, rfl, hs, (Drew.of ((Below.refl _ _).alloc (Nat.le_refl _) _)).tr hd, hr⟩

set_option maxHeartbeats 1000000 in
theorem l30Text_any (rb N : Nat) (w : World) (h : RdOk w rb N) (hN : N ≤ 999000) :
    Calls Tryd.prog 53 #[.pointer (some ⟨rb, 0, none⟩)] w fun e w' => ∃ (v : Value) (xs : List ByteArray), e = .returned v ∧ xs.length ≤ 8 ∧ Fresh w.heap.size w'.heap.size w' [v] xs ∧ Drew rb w w' ∧ RdOk w' rb (N + 20) := by
  have hlt := h.lt
  go_enter Tryd.func53, Tryd.ntmps53
  go_wp2_with fail
  refine (one_any (S := fun b => b = w.heap.size + 1) rb N _ [0, 1, 3, 5, 8] _ ((h.alloc _).alloc _) (by omega)
    (lit_ints _ (heap_new_at (by simp)) (by intro s hs; simp at hs; unfold I64; omega) (by decide)).rd (by intro b hb; omega) (by decide) (by decide)).mono ?_
  rintro e w1 ⟨s, rfl, hs, hd, hr⟩
  obtain ⟨k, rfl, hk⟩ : ∃ k : Nat, s = (k : Int) ∧ k ≤ 8 := ⟨s.toNat, by simp at hs; omega, by simp at hs; omega⟩
  have hd0 : Drew rb w w1 := (Drew.of (((Below.refl _ _).alloc (Nat.le_refl _) _).alloc (by simp) _)).tr hd
  have hF0 : Fresh w.heap.size w1.heap.size w1 [.slice (some ⟨w.heap.size, 0, none⟩) 0 0] ([] : List ByteArray) :=
    (hd.fresh ((Fresh.empty (by decide) _ _ (Nat.le_refl _)).alloc _) (.inl hlt)).now
  clear hs hd
  go_wp2
  go_loopw [3, 4] (fun out n wr => (∃ (xs : List ByteArray) (k : Nat), n = .int .i64 k ∧ xs.length + k ≤ 8 ∧ Fresh w.heap.size wr.heap.size wr [out] xs ∧ RdOk wr rb (N + 1 + xs.length)) ∧ Drew rb w wr) (fun _ n _ => (intOf n).toNat)
  case atStart => exact ⟨⟨[], k, rfl, by simpa using hk, hF0, hr⟩, hd0⟩
  case round =>
    obtain ⟨⟨xs, k, rfl, hk, hF, hr⟩, hd⟩ := hrel
    have hsz := hd.size
    by_cases hlt2 : 0 < k
    · go_wp2_with fail
      refine (l30Line_any rb _ _ hr (by omega)).mono ?_
      rintro e w2 ⟨s, rfl, hs, hd2, hr2⟩
      have hF2 := (hd2.fresh hF (.inl hlt)).now
      have hd3 := hd.tr hd2
      have hsz3 := hd3.size
      have hsrc : IsSlice (fun b => b = w2.heap.size) (w2.alloc (.cells #[.string s] (Tid.tid ByteArray))) (some ⟨w2.heap.size, 0, none⟩) 1 [s] := lit_strs [s] (heap_alloc_new _ _) (by simpa using hs) (by unfold maxLen; simp)
      go_wp2_with (at_builtin; go_must (refine wpList_app_leaf slz_string.slt rfl (.tmp 13) (.tmp 16) rfl rfl (hF2.alloc _) (le_alloc hsz3 _) rfl rfl hsrc (by simp <;> omega) (by unfold maxLen; simp <;> omega) ?_); intro a4 c4 w4 hG4)
      go_roundw
      case rel => exact ⟨⟨xs ++ [s], k - 1, by go_num, by simp; omega, hG4.fresh, ((hr2.alloc _).below hlt hG4.below).mono (by simp; omega)⟩, (hd3.belowB ((Below.refl _ _).alloc (Nat.le_refl _) _) hsz3).belowB hG4.below (Nat.le_refl _)⟩
      case measure => simp [intOf]; omega
    · go_wp2
      go_ret
      exact ⟨_, xs, rfl, by omega, hF, hd, hr.mono (by omega)⟩
end Go.Proofs.YthhmaclhggmneaaDoor
namespace Go.Proofs.YthhmaclhggmneaaDoor
open Go.RowKit Go.Vc
open Go.Vc.Rep (rd)
open Go.Vc.Own (own)

theorem nat_eq_f {k : Nat} {n : Nat} (h : k ≠ n) : ((k : Int) == (n : Int)) = false := by simp only [beq_eq_false_iff_ne, ne_eq]; omega

end Go.Proofs.YthhmaclhggmneaaDoor
namespace Go.Proofs.YthhmaclhggmneaaDoor
open Go.RowKit Go.Vc
open Go.Vc.Rep (rd)
open Go.Vc.Own (own)

theorem slt_byte : SlT Tryd.prog 36 UInt8 1 := by
  obtain ⟨i, h1, h2, h3, h4⟩ := info_parts (show (Tryd.prog.info? 5).map (fun i => (i.zero, i.size, i.bytes)) = some (some (.int .u8 0), 1, 1) by kernel_rfl)
  exact ⟨Tryd.underlying36, ⟨i, _, h1, h2, h3, h4, rfl⟩, Nat.one_pos⟩

set_option maxHeartbeats 1000000 in
theorem l30Open_any {S : Nat → Prop} (v : Value) (bs : List UInt8) (w : World) (hv : rd S w [v] bs) (hl : bs.length ≤ 1048576) :
    Calls Tryd.prog 51 #[v] w fun e w' => e = .returned (.pointer (some ⟨w.heap.size, 0, none⟩)) ∧ RdOk w' w.heap.size 0 ∧ Below w.heap.size w w' ∧ w'.heap.size = w.heap.size + 1 := by
  obtain ⟨a, cap, rfl, hs⟩ := rd_slice_elim (Rep.lt hv)
  by_cases h2 : 2000 < bs.length
  · have hct : ∀ w, (Instr.slice 36 (.slice a bs.length cap) none (some (.int .i64 2000)) none).run Tryd.prog w = .ok (.slice a 2000 cap) w := fun w => run_cut0 slt_byte a bs.length cap 2000 (by have := hs.1; omega) w
    have hcl : (bs.take 2000).length = 2000 := by simp; omega
    have hs2 := (hs.take 2000).alloc (.cells #[.slice a 2000 cap, .int .i64 0] 118)
    go_enter Tryd.func51, Tryd.ntmps51
    go_wp2
    go_ret
    exact ⟨rfl, ⟨a, cap, 0, bs.take 2000, _, (by rw [hcl]; exact heap_alloc_new _ _), Nat.le_refl _, hs2, by omega⟩, ((Below.refl _ _).alloc (by simp <;> omega) _), by simp⟩
  · have hs2 := hs.alloc (.cells #[.slice a bs.length cap, .int .i64 0] 118)
    go_enter Tryd.func51, Tryd.ntmps51
    go_wp2
    go_ret
    exact ⟨rfl, ⟨a, cap, 0, bs, _, heap_alloc_new _ _, Nat.le_refl _, hs2, by omega⟩, ((Below.refl _ _).alloc (by simp <;> omega) _), by simp⟩

end Go.Proofs.YthhmaclhggmneaaDoor
namespace Go.Proofs.YthhmaclhggmneaaDoor
open Go.RowKit Go.Vc
open Go.Vc.Rep (rd)
open Go.Vc.Own (own)

set_option maxHeartbeats 4000000 in
set_option maxRecDepth 100000 in
theorem l30Turn_any {S : Nat → Prop} (rb N : Nat) (v : Value) (xs : List ByteArray) (w : World) (h : RdOk w rb N) (hN : N ≤ 990000) (hv : rd S w [v] xs) (hx : xs.length ≤ 18) :
    Calls Tryd.prog 88 #[.pointer (some ⟨rb, 0, none⟩), v] w fun e w' => ∃ (v : Value) (xs : List ByteArray), e = .returned v ∧ xs.length ≤ 18 ∧ Fresh w.heap.size w'.heap.size w' [v] xs ∧ Drew rb w w' ∧ RdOk w' rb (N + 30) := by
  have hlt := h.lt
  obtain ⟨a, cap, rfl, hs⟩ := rd_slice_elim hv
  go_enter Tryd.func88, Tryd.ntmps88
  go_wp2_with (at_builtin; go_must (refine wpList_app_leaf slz_string.slt rfl (.tmp 9) (.tmp 10) rfl rfl (Fresh.empty (by decide) w.heap.size w (Nat.le_refl _)) (le_alloc (Nat.le_refl _) _) rfl rfl (hs.alloc _) (by simp <;> omega) (by unfold maxLen; simp <;> omega) ?_); intro a1 c1 w1 hG1)
  have hb1 := ((Below.refl _ w).alloc (Nat.le_refl _) _).trans hG1.below
  refine (pick_any rb N _ _ (h.below hlt hb1) (by omega) (by omega)).mono ?_
  rintro e w2 ⟨k, rfl, hk, hd2, hr2⟩
  have hk3 : k ≤ 3 := by omega
  have hd3 := (Drew.of (rb := rb) hb1).tr hd2
  have hF2 := (hd2.fresh hG1.fresh (.inl hlt)).now
  have hxl : ([] ++ xs).length ≤ 18 := by simpa using hx
  clear hk hG1 hb1 hs
  go_wp2
  go_loopw [5, 6] (fun out n wr => (∃ (ys : List ByteArray) (k : Nat), n = .int .i64 k ∧ k ≤ 3 ∧ ys.length ≤ 18 ∧ Fresh w.heap.size wr.heap.size wr [out] ys ∧ RdOk wr rb (N + 1 + 3 * (3 - k))) ∧ Drew rb w wr) (fun _ n _ => (intOf n).toNat)
  case atStart => exact ⟨⟨[] ++ xs, k, rfl, hk3, hxl, by simpa using hF2, hr2.mono (by omega)⟩, hd3⟩
  case round =>
    clear hd2 hr2 hd3 hF2 hxl hk3
    obtain ⟨⟨ys, k, rfl, hk, hyl, hF, hr⟩, hd⟩ := hrel
    obtain ⟨a2, c2, rfl, _⟩ := hF.shape
    have hsz := hd.size
    by_cases hk0 : 0 < k
    · go_wp2_with fail
      refine (pick_any rb _ _ _ hr (by omega) (by omega)).mono ?_
      rintro e w3 ⟨p, rfl, hp, hd3, hr3⟩
      have hp' : p ≤ ys.length := by omega
      go_wp2_with fail
      refine (pick_any rb _ _ _ hr3 (by omega) (by omega)).mono ?_
      rintro e w4 ⟨q, rfl, hq, hd4, hr4⟩
      have hF4 := (hd4.fresh (hd3.fresh hF (.inl hlt)).now (.inl hlt)).now
      have hd5 := (hd.tr hd3).tr hd4
      have hsz5 := hd5.size
      have hs4 := (rd_slice_of hF4.rd2).2
      clear hp hq hF hr hr3 hd3 hd4
      obtain ⟨wo, rfl⟩ : ∃ wo : World, wo = w4 := ⟨_, rfl⟩
      by_cases hq0 : q = 0
      · subst hq0
        by_cases h10 : ys.length < 10
        · have hct := run_cut0 slz_string.slt a2 ys.length c2 p (by have := hs4.1; omega)
          have hct2 := run_cut slz_string.slt a2 ys.length c2 p hp'
          have hpl : (ys.take p).length = p := by simp; omega
          go_wp2_with (at_builtin; go_must (refine wpList_app_leaf slz_string.slt rfl (.tmp 39) (.tmp 42) rfl rfl (Fresh.empty (by decide) wo.heap.size wo (Nat.le_refl _)) (le_alloc (Nat.le_refl _) _) rfl hpl.symm ((hs4.take p).alloc _) (by simp <;> omega) (by unfold maxLen; simp <;> omega) ?_); intro a5 c5 w5 hG5)
          have hF5 : Fresh wo.heap.size w5.heap.size w5 [.slice a5 p c5] (ys.take p) := by
            have := hG5.fresh
            simpa only [List.length_nil, Nat.zero_add, hpl, List.nil_append] using this
          have hb5 := ((Below.refl _ wo).alloc (Nat.le_refl _) _).trans hG5.below
          have hr5 := hr4.below (by omega) hb5
          have hs5 := hs4.frame (S' := fun b => w.heap.size ≤ b ∧ b < wo.heap.size) (w' := w5) (fun b hb _ => ⟨hb5.block b hb.2, hb⟩)
          have hd6 := hd5.belowB hb5 hsz5
          have hsz6 := hb5.size
          clear hG5 hs4 hF4 hr4
          refine (l30Line_any rb _ _ hr5 (by omega)).mono ?_
          rintro e w6 ⟨s, rfl, hss, hd7, hr7⟩
          have hF7 := (hd7.fresh hF5 (.inl (by omega))).now
          have hs7 := hd7.slice hs5 (by intro b hb; omega)
          have hd8 := hd6.tr hd7
          have hsz7 := hd7.size
          have hsrc : IsSlice (fun b => b = w6.heap.size) (w6.alloc (.cells #[.string s] (Tid.tid ByteArray))) (some ⟨w6.heap.size, 0, none⟩) 1 [s] := lit_strs [s] (heap_alloc_new _ _) (by simpa using hss) (by unfold maxLen; simp)
          have hdl : (ys.drop p).length = ys.length - p := by simp
          go_wp2_with (first
            | (at_builtin; (with_reducible refine wpList_app_leaf slz_string.slt rfl (.tmp 44) (.tmp 47) rfl rfl (hF7.alloc _) (le_alloc (by omega) _) rfl rfl hsrc (by simp <;> omega) (by unfold maxLen; simp <;> omega) ?_); intro a8 c8 w8 hG8; have hs8 := (hs7.alloc _).frame (S' := fun b => w.heap.size ≤ b ∧ b < wo.heap.size) (w' := w8) (fun b hb _ => ⟨hG8.below.block b hb.2, hb⟩); have hF8 := (show Fresh wo.heap.size w8.heap.size w8 [.slice a8 (p + 1) c8] (ys.take p ++ [s]) from (by have := hG8.fresh; rw [hpl] at this; exact this)); have hb8 := hG8.below; have hsz8 := hG8.below.size)
            | (at_builtin; go_must (refine wpList_app_leaf slz_string.slt rfl (.tmp 49) (.tmp 52) rfl rfl hF8 (by simp at hsz8; omega) rfl hdl.symm (hs8.cut hp') (by simp <;> omega) (by unfold maxLen; simp <;> omega) ?_); intro a9 c9 w9 hG9))
          have hF9 : Fresh wo.heap.size w9.heap.size w9 [.slice a9 (p + 1 + (ys.length - p)) c9] (ys.take p ++ [s] ++ ys.drop p) := by
            have := hG9.fresh
            simpa only [List.length_append, hpl, hdl, List.length_singleton] using this
          have hb9 := (((Below.refl _ w6).alloc (B := wo.heap.size) (by omega) _).trans hb8).trans hG9.below
          go_roundw
          case rel => exact ⟨⟨_, k - 1, by go_num, by omega, by simp; omega, hF9.mono hsz5 (Nat.le_refl _), (hr7.below (B := wo.heap.size) (by omega) hb9).mono (by omega)⟩, hd8.belowB hb9 hsz5⟩
          case measure => simp [intOf]; omega
        · go_wp2
          go_roundw
          case rel => exact ⟨⟨ys, k - 1, by go_num, by omega, hyl, hF4, hr4.mono (by omega)⟩, hd5⟩
          case measure => simp [intOf]; omega
      · have hq0' := nat_eq_f hq0
        by_cases hq1 : q = 1
        · subst hq1
          by_cases hpl : p < ys.length
          · have hct := run_cut0 slz_string.slt a2 ys.length c2 p (by have := hs4.1; omega)
            have hct2 : ∀ w, (Instr.slice 69 (.slice a2 ys.length c2) (some (.int .i64 ((p : Int) + 1))) none none).run Tryd.prog w = .ok (.slice (cutA a2 c2 (p + 1) (Rep.sz ByteArray)) (ys.length - (p + 1)) (c2 - (p + 1))) w := fun w => run_cut slz_string.slt a2 ys.length c2 (p + 1) hpl w
            have htl : (ys.take p).length = p := by simp; omega
            have hdl : (ys.drop (p + 1)).length = ys.length - (p + 1) := by simp
            have e1 : IntKind.i64.wrap ((p : Int) + 1) = ((p + 1 : Nat) : Int) := IntWalk.i64_in _ (by omega)
            go_wp2_with fail
            go_region_law (first
              | (refine step_app_leaf slz_string.slt rfl (.tmp 60) (.tmp 63) rfl rfl (by exact (Fresh.empty (by decide) wo.heap.size wo (Nat.le_refl _)).drew) (by simp <;> omega) rfl htl.symm (by exact ((hs4.take p).alloc _).drew) (by simp <;> omega) (by unfold maxLen; simp <;> omega) ?_; intro a5 c5 w5 hG5; have hF5 := (show Fresh wo.heap.size w5.heap.size w5 [.slice a5 p c5] (ys.take p) from (by have := hG5.fresh; simpa only [List.length_nil, Nat.zero_add, htl, List.nil_append] using this)); have hb5 := ((Below.refl _ wo).alloc (Nat.le_refl _) (.cells #[] (Tid.tid ByteArray))).drew.trans hG5.below; have hs5 := hs4.frame (S' := fun b => w.heap.size ≤ b ∧ b < wo.heap.size) (w' := w5) (fun b hb _ => ⟨hb5.block b hb.2, hb⟩); have hsz6 := hb5.size)
              | (refine step_app_leaf slz_string.slt rfl (.tmp 64) (.tmp 68) rfl rfl hF5 hsz6 rfl hdl.symm (by exact hs5.cut (k := p + 1) (by omega)) (by simp <;> omega) (by unfold maxLen; simp <;> omega) ?_; intro a9 c9 w9 hG9))
            all_goals
              go_wp2
              have hF9 : Fresh wo.heap.size w9.heap.size w9 [.slice a9 (p + (ys.length - (p + 1))) c9] (ys.take p ++ ys.drop (p + 1)) := by
                have := hG9.fresh
                simpa only [List.length_append, htl, hdl] using this
              have hb9 := hb5.trans hG9.below
              go_roundw
              case rel => exact ⟨⟨_, k - 1, by go_num, by omega, by simp; omega, hF9.mono hsz5 (Nat.le_refl _), (hr4.below (B := wo.heap.size) (by omega) hb9).mono (by omega)⟩, hd5.belowB hb9 hsz5⟩
              case measure => simp [intOf]; omega
          · go_wp2
            go_roundw
            case rel => exact ⟨⟨ys, k - 1, by go_num, by omega, hyl, hF4, hr4.mono (by omega)⟩, hd5⟩
            case measure => simp [intOf]; omega
        · have hq1' := nat_eq_f hq1
          by_cases hpl : p < ys.length
          · go_wp2_with fail
            refine (l30Line_any rb _ _ hr4 (by omega)).mono ?_
            rintro e w6 ⟨s, rfl, hss, hd7, hr7⟩
            have hF7 := (hd7.fresh hF4 (.inl hlt)).now
            have hd8 := hd5.tr hd7
            have hsz7 := hd7.size
            obtain ⟨g2, rfl, hg2, hg3⟩ := hF7.addr (by omega)
            obtain ⟨⟨u, hu⟩, hfz, _, _⟩ := hF7.there1 rfl (i := p) hpl
            go_wp2
            go_roundw
            case rel => exact ⟨⟨ys.set p s, k - 1, by go_num, by omega, by simpa using hyl, by simpa using hF7.set1 rfl hpl (Fresh.leaf (m := w6.heap.size) ⟨rfl, rfl, hss⟩) (by omega), (hr7.below (B := w.heap.size) hlt ((Below.refl _ _).setCell hg2 _)).mono (by omega)⟩, hd8.belowB ((Below.refl _ _).setCell hg2 _) (Nat.le_refl _)⟩
            case measure => simp [intOf]; omega
          · go_wp2
            go_roundw
            case rel => exact ⟨⟨ys, k - 1, by go_num, by omega, hyl, hF4, hr4.mono (by omega)⟩, hd5⟩
            case measure => simp [intOf]; omega
    · go_wp2
      go_ret
      exact ⟨_, ys, rfl, hyl, hF, hd, hr.mono (by omega)⟩
end Go.Proofs.YthhmaclhggmneaaDoor
