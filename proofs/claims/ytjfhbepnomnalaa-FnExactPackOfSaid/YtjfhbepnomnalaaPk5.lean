/-
  Walks: sizes of packs, texts of packs.
-/
import Derived.Test.YtjfhbepnomnalaaPk4
import Derived.Test.YtjfhbepnomnalaaPkO
set_option linter.unusedVariables false
namespace Go.Vc
open Go.RowKit
open Rep (rd)
open Own (own)

def sizeP (xs : List Packed) : Int := if packB xs = true then ((bsum (fun p => sizeD p.pcs) xs : Nat) : Int) else -1
theorem bsum_le_of {α : Type} {b : α → Nat} {m : Nat} : ∀ {xs : List α}, (∀ x, x ∈ xs → b x ≤ m) → bsum b xs ≤ m * xs.length
  | [], _ => by simp [bsum]
  | x :: r, h => by
    rw [bsum_cons, List.length_cons, Nat.mul_add]
    have h1 := h x (List.mem_cons_self ..)
    have h2 := bsum_le_of (fun y hy => h y (List.mem_cons_of_mem _ hy)) (xs := r)
    omega
theorem sizeD_le {ds : List Delta} (h : deltaB ds = true) : sizeD ds ≤ 110 := by
  have h1 := deltaB_len h
  have h2 := bsum_le_of (b := fun d : Delta => d.lines.length) (m := 10) (xs := ds) fun d hd => by
    obtain ⟨k, hk, rfl⟩ := List.getElem_of_mem hd
    exact (piece_facts (deltaB_at h hk)).2.2.2.2.1
  unfold sizeD
  omega
theorem sizeP_le {xs : List Packed} (h : packB xs = true) : bsum (fun p => sizeD p.pcs) xs ≤ 1320 := by
  obtain ⟨h1, h2⟩ := packB_of h
  have := bsum_le_of (b := fun p : Packed => sizeD p.pcs) (m := 110) (xs := xs) fun p hp => by
    obtain ⟨k, hk, rfl⟩ := List.getElem_of_mem hp
    exact sizeD_le ((h1 k hk).1 hk).2.2
  omega
def pget (xs : List Packed) (k : Int) : List ByteArray × Bool := if packB xs = true then (if withinB k 0 ((xs.length : Int) - 1) = true then getAt xs k.toNat else ([], false)) else ([], false)
theorem Fresh.elem1 {α : Type} [Own α] [Tid α] (hz : Rep.sz α = 1) {B m : Nat} {w : World} {v : Value} {xs : List α} (h : Fresh B m w [v] xs) {i : Nat} (hi : i < xs.length) :
    ∃ g cap u, v = .slice (some ⟨g, 0, none⟩) xs.length cap ∧ w.cell? ⟨g, i, none⟩ = some u ∧ Fresh B m w [u] xs[i] := by
  obtain ⟨a, cap, rfl, _⟩ := h.shape
  obtain ⟨g, rfl, _⟩ := h.addr (by omega)
  obtain ⟨F, ho, hn, hb⟩ := h
  obtain ⟨c, Fi, h1, h2, h3, _, _, h6, _⟩ := own_focus ho hn hi
  have hl := Rep.len (Own.rd_of h1)
  rw [hz] at hl
  match c, hl with
  | [u], _ =>
    have := h6 0 u rfl
    rw [hz, Nat.mul_one, Nat.add_zero] at this
    exact ⟨g, cap, u, rfl, this, Fi, h1, h3, fun b hm => hb b (h2 b hm)⟩
end Go.Vc
namespace Go.Proofs.Ytjfhbepnomnalaa
open Go.RowKit Go.Vc
open Go.Vc.Rep (rd)
open Go.Vc.Own (own)

set_option maxHeartbeats 1000000 in
theorem sizeOf_is {S : Nat → Prop} (v : Value) (xs : List Delta) (w : World) (hv : rd S w [v] xs) (hm : sizeD xs ≤ 1048576) :
    Calls Try.prog 83 #[v] w fun e w' => e = .returned (.int .i64 (sizeD xs)) ∧ Below w.heap.size w w' := by
  obtain ⟨a, cap, rfl, hs⟩ := rd_slice_elim (Rep.lt hv)
  have hle := hs.le
  unfold sizeD at hm ⊢
  go_enter Try.func83, Try.ntmps83
  go_wp2
  go_loopw [3, 10] (fun m i wr => (∃ k s : Nat, k ≤ xs.length ∧ i = .int .i64 k ∧ m = .int .i64 s ∧ s + bsum (fun d => d.lines.length) (xs.drop k) ≤ 1048576 ∧ Hid (xs.length + bsum (fun d => d.lines.length) xs = s + bsum (fun d => d.lines.length) (xs.drop k))) ∧ Below w.heap.size w wr) (fun _ i _ => xs.length - (intOf i).toNat)
  case atStart => exact ⟨⟨0, xs.length, by omega, rfl, rfl, by simpa using hm, by show _ = _; simp⟩, Below.refl _ _⟩
  case round =>
    obtain ⟨⟨k, s, hk, rfl, rfl, hms, HA⟩, hb⟩ := hrel
    by_cases hlt : k < xs.length
    · obtain ⟨g, off, b, n, rfl, hc0, hc1, hc2, _, _, hl⟩ := (hs.keep hb).delta hlt
      have hn := bsum_drop (fun d : Delta => d.lines.length) xs k hlt
      have hms1 : s + xs[k].lines.length + bsum (fun d => d.lines.length) (xs.drop (k + 1)) ≤ 1048576 := by omega
      have hms2 : s + xs[k].lines.length ≤ 1048576 := by omega
      have HN := Lib.hid hn
      clear hn hms
      go_wp2
      go_roundw
      case rel => exact ⟨⟨k + 1, s + xs[k].lines.length, by omega, by go_num, by go_num, hms1, by show _ = _; rw [HA.out, HN.out]; omega⟩, hb.alloc hb.size _⟩
      case measure => simp [intOf]; omega
    · have hz := bsum_end (fun d : Delta => d.lines.length) xs k hlt
      have HZ := Lib.hid hz
      clear hz
      go_wp2
      go_ret
      exact ⟨ret_int (by rw [HA.out, HZ.out]; omega), hb⟩

set_option maxHeartbeats 1000000 in
theorem l13Size_is {S : Nat → Prop} (v : Value) (xs : List Delta) (w : World) (hv : rd S w [v] xs) (hm : sizeD xs ≤ 1048576) :
    Calls Try.prog 82 #[v] w fun e w' => e = .returned (.int .i64 (sizeD xs)) ∧ Below w.heap.size w w' := by
  obtain ⟨a, cap, rfl, hs⟩ := rd_slice_elim (Rep.lt hv)
  have hle := hs.le
  unfold sizeD at hm ⊢
  go_enter Try.func82, Try.ntmps82
  go_wp2
  go_loopw [3, 4] (fun m i wr => (∃ k s : Nat, k ≤ xs.length ∧ i = .int .i64 k ∧ m = .int .i64 s ∧ s + bsum (fun d => d.lines.length) (xs.drop k) ≤ 1048576 ∧ Hid (xs.length + bsum (fun d => d.lines.length) xs = s + bsum (fun d => d.lines.length) (xs.drop k))) ∧ Below w.heap.size w wr) (fun _ i _ => xs.length - (intOf i).toNat)
  case atStart => exact ⟨⟨0, xs.length, by omega, rfl, rfl, by simpa using hm, by show _ = _; simp⟩, Below.refl _ _⟩
  case round =>
    obtain ⟨⟨k, s, hk, rfl, rfl, hms, HA⟩, hb⟩ := hrel
    by_cases hlt : k < xs.length
    · obtain ⟨g, off, b, n, rfl, hc0, hc1, hc2, _, _, hl⟩ := (hs.keep hb).delta hlt
      have hn := bsum_drop (fun d : Delta => d.lines.length) xs k hlt
      have hms1 : s + xs[k].lines.length + bsum (fun d => d.lines.length) (xs.drop (k + 1)) ≤ 1048576 := by omega
      have hms2 : s + xs[k].lines.length ≤ 1048576 := by omega
      have HN := Lib.hid hn
      clear hn hms
      go_wp2
      go_roundw
      case rel => exact ⟨⟨k + 1, s + xs[k].lines.length, by omega, by go_num, by go_num, hms1, by show _ = _; rw [HA.out, HN.out]; omega⟩, hb⟩
      case measure => simp [intOf]; omega
    · have hz := bsum_end (fun d : Delta => d.lines.length) xs k hlt
      have HZ := Lib.hid hz
      clear hz
      go_wp2
      go_ret
      exact ⟨ret_int (by rw [HA.out, HZ.out]; omega), hb⟩

set_option maxHeartbeats 1000000 in
theorem implPackSize {S : Nat → Prop} (v : Value) (xs : List Packed) (w : World) (hv : rd S w [v] xs) :
    Calls Try.prog 45 #[v] w fun e w' => e = .returned (.int .i64 (sizeP xs)) ∧ Below w.heap.size w w' := by
  obtain ⟨a, cap, rfl, hs⟩ := rd_slice_elim (Rep.lt hv)
  have hle := hs.le
  cases hp : packB xs with
  | false =>
    have HS := Lib.hid (show sizeP xs = -1 by rw [sizeP, if_neg (by rw [hp]; simp)])
    go_enter Try.func45, Try.ntmps45
    go_wp2_with fail
    refine (implPackOk_is _ xs _ hs.rd hp).mono ?_
    rintro e w1 ⟨rfl, hb⟩
    go_wp2
    go_ret
    exact ⟨ret_int HS.out.symm, hb⟩
  | true =>
    have hsl := sizeP_le hp
    have hgood := packB_of hp
    have HS := Lib.hid (show sizeP xs = (bsum (fun p => sizeD p.pcs) xs : Nat) by rw [sizeP, if_pos hp])
    have HG := Lib.hid (show ∀ k (h : k < xs.length), sizeD xs[k].pcs ≤ 110 from fun k hk => sizeD_le ((hgood.1 k hk).1 hk).2.2)
    clear hgood
    go_enter Try.func45, Try.ntmps45
    go_wp2_with fail
    refine (implPackOk_is _ xs _ hs.rd hp).mono ?_
    rintro e w1 ⟨rfl, hb0⟩
    clear hp
    go_wp2
    go_loopw [3, 11] (fun m i wr => (∃ k s : Nat, k ≤ xs.length ∧ i = .int .i64 k ∧ m = .int .i64 s ∧ s + bsum (fun p => sizeD p.pcs) (xs.drop k) ≤ 1320 ∧ Hid (bsum (fun p => sizeD p.pcs) xs = s + bsum (fun p => sizeD p.pcs) (xs.drop k))) ∧ Below w.heap.size w wr) (fun _ i _ => xs.length - (intOf i).toNat)
    case atStart => exact ⟨⟨0, 0, by omega, rfl, rfl, by simpa using hsl, by show _ = _; simp⟩, hb0⟩
    case round =>
      clear hsl hb0
      obtain ⟨⟨k, s, hk, rfl, rfl, hms, HA⟩, hb⟩ := hrel
      by_cases hlt : k < xs.length
      · obtain ⟨g, off, b, n, rfl, hc0, hc1, hi1, hl⟩ := (hs.keep hb).packed hlt
        have hn := bsum_drop (fun p : Packed => sizeD p.pcs) xs k hlt
        have hms1 : s + sizeD xs[k].pcs + bsum (fun p => sizeD p.pcs) (xs.drop (k + 1)) ≤ 1320 := by omega
        have hms2 : s + sizeD xs[k].pcs ≤ 1320 := by omega
        have HN := Lib.hid hn
        clear hn hms
        have hg := HG.out k hlt
        go_wp2_with fail
        refine (sizeOf_is _ _ _ (hl.alloc _).rd (by omega)).mono ?_
        rintro e w2 ⟨rfl, hb2⟩
        go_wp2
        go_roundw
        case rel => exact ⟨⟨k + 1, s + sizeD xs[k].pcs, by omega, by go_num, by go_num, hms1, by show _ = _; rw [HA.out, HN.out]; omega⟩, (hb.alloc hb.size _).trans (hb2.mono (by have := hb.size; simp; omega))⟩
        case measure => simp [intOf]; omega
      · have hz := bsum_end (fun p : Packed => sizeD p.pcs) xs k hlt
        have HZ := Lib.hid hz
        clear hz
        go_wp2
        go_ret
        exact ⟨ret_int (by rw [HS.out, HA.out, HZ.out]; omega), hb⟩

set_option maxHeartbeats 1000000 in
theorem specPackSize {S : Nat → Prop} (v : Value) (xs : List Packed) (w : World) (hv : rd S w [v] xs) (hlen : xs.length ≤ 1048576) :
    Calls Try.prog 44 #[v] w fun e w' => e = .returned (.int .i64 (sizeP xs)) ∧ Below w.heap.size w w' := by
  obtain ⟨a, cap, rfl, hs⟩ := rd_slice_elim (Rep.lt hv)
  have hle := hs.le
  cases hp : packB xs with
  | false =>
    have HS := Lib.hid (show sizeP xs = -1 by rw [sizeP, if_neg (by rw [hp]; simp)])
    go_enter Try.func44, Try.ntmps44
    go_wp2_with fail
    refine (l13PackOk_is _ xs _ hs.rd hlen hp).mono ?_
    rintro e w1 ⟨rfl, hb⟩
    go_wp2
    go_ret
    exact ⟨ret_int HS.out.symm, hb⟩
  | true =>
    have hsl := sizeP_le hp
    have hgood := packB_of hp
    have HS := Lib.hid (show sizeP xs = (bsum (fun p => sizeD p.pcs) xs : Nat) by rw [sizeP, if_pos hp])
    have HG := Lib.hid (show ∀ k (h : k < xs.length), sizeD xs[k].pcs ≤ 110 from fun k hk => sizeD_le ((hgood.1 k hk).1 hk).2.2)
    clear hgood
    go_enter Try.func44, Try.ntmps44
    go_wp2_with fail
    refine (l13PackOk_is _ xs _ hs.rd hlen hp).mono ?_
    rintro e w1 ⟨rfl, hb0⟩
    clear hp
    go_wp2
    go_loopw [3, 4] (fun m i wr => (∃ k s : Nat, k ≤ xs.length ∧ i = .int .i64 k ∧ m = .int .i64 s ∧ s + bsum (fun p => sizeD p.pcs) (xs.drop k) ≤ 1320 ∧ Hid (bsum (fun p => sizeD p.pcs) xs = s + bsum (fun p => sizeD p.pcs) (xs.drop k))) ∧ Below w.heap.size w wr) (fun _ i _ => xs.length - (intOf i).toNat)
    case atStart => exact ⟨⟨0, 0, by omega, rfl, rfl, by simpa using hsl, by show _ = _; simp⟩, hb0⟩
    case round =>
      clear hsl hb0
      obtain ⟨⟨k, s, hk, rfl, rfl, hms, HA⟩, hb⟩ := hrel
      by_cases hlt : k < xs.length
      · obtain ⟨g, off, b, n, rfl, hc0, hc1, hi1, hl⟩ := (hs.keep hb).packed hlt
        have hn := bsum_drop (fun p : Packed => sizeD p.pcs) xs k hlt
        have hms1 : s + sizeD xs[k].pcs + bsum (fun p => sizeD p.pcs) (xs.drop (k + 1)) ≤ 1320 := by omega
        have hms2 : s + sizeD xs[k].pcs ≤ 1320 := by omega
        have HN := Lib.hid hn
        clear hn hms
        have hg := HG.out k hlt
        go_wp2_with fail
        refine (l13Size_is _ _ _ hl.rd (by omega)).mono ?_
        rintro e w2 ⟨rfl, hb2⟩
        go_wp2
        go_roundw
        case rel => exact ⟨⟨k + 1, s + sizeD xs[k].pcs, by omega, by go_num, by go_num, hms1, by show _ = _; rw [HA.out, HN.out]; omega⟩, hb.trans (hb2.mono hb.size)⟩
        case measure => simp [intOf]; omega
      · have hz := bsum_end (fun p : Packed => sizeD p.pcs) xs k hlt
        have HZ := Lib.hid hz
        clear hz
        go_wp2
        go_ret
        exact ⟨ret_int (by rw [HS.out, HA.out, HZ.out]; omega), hb⟩
end Go.Proofs.Ytjfhbepnomnalaa
