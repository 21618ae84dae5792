/-
  Walks: the text at a path. / Walks: what a line refers to. / Walks: which files refer to a path.
-/
import Derived.Test.YthddcfbjgcbioaaGreatDoorWCopy
import Derived.Test.YthddcfbjgcbioaaGreatDoorVPB
import Derived.Test.YthddcfbjgcbioaaGreatDoorVTR
import Derived.Test.YthddcfbjgcbioaaGreatDoorVL
import Derived.Test.YthddcfbjgcbioaaGreatDoorVCT
import Derived.Test.YthddcfbjgcbioaaGreatDoorVI
set_option linter.unusedVariables false
namespace Go.Proofs.YthddcfbjgcbioaaGreatDoor
open Go.RowKit Go.Vc
open Go.Vc.Rep (rd)
open Go.Vc.Own (own)

set_option maxHeartbeats 4000000 in
set_option maxRecDepth 100000 in
theorem get_any {S : Nat → Prop} (v : Value) (t : List File) (path : ByteArray) (w : World) (hv : rd S w [v] t) (hx : ∀ f, f ∈ t → f.text.length ≤ 10) {M : Option (List ByteArray)} (hM : getT t path = M) :
    Calls Tryz.prog 33 #[v, .string path] w fun e w' => ∃ v', e = .returned (.tuple #[v', .bool M.isSome]) ∧ Fresh w.heap.size w'.heap.size w' [v'] (M.getD []) ∧ Below w.heap.size w w' := by
  obtain ⟨a, cap, rfl, hs⟩ := rd_slice_elim (Rep.lt hv)
  have hle := hs.le
  have HM := Lib.hid hM
  clear hM
  go_enter Tryz.func33, Tryz.ntmps33
  go_wp2
  go_loopw [10] (fun i wr => (∃ k : Nat, k ≤ t.length ∧ i = .int .i64 k ∧ Hid (getT t path = getT (t.drop k) path)) ∧ Below w.heap.size w wr) (fun i _ => t.length - (intOf i).toNat)
  case atStart => exact ⟨⟨0, by omega, rfl, rfl⟩, Below.refl _ _⟩
  case round =>
    obtain ⟨⟨k, hk, rfl, HA⟩, hb⟩ := hrel
    have hsz := hb.size
    by_cases hlt : k < t.length
    · obtain ⟨g, off, a1, c1, rfl, hc1, hc2, hz1, hft⟩ := (hs.keep hb).file hlt
      have hx10 := hx t[k] (List.getElem_mem hlt)
      obtain ⟨f, hf⟩ : ∃ f, f = t[k] := ⟨_, rfl⟩
      rw [← hf] at hc1 hc2 hz1 hft hx10
      have HF := Lib.hid hf
      have hB1 : Below wr.heap.size wr (wr.alloc (.cells #[.string f.path, .slice a1 f.text.length c1] 36)) := (Below.refl _ _).alloc (Nat.le_refl _) _
      have q0 : (wr.alloc (.cells #[.string f.path, .slice a1 f.text.length c1] 36)).cell? ⟨wr.heap.size, 0, none⟩ = some (.string f.path) := by rw [cell_of_row _ _ 0 _ _ (0, 0) (heap_alloc_new _ _)]; rfl
      have q1 : (wr.alloc (.cells #[.string f.path, .slice a1 f.text.length c1] 36)).cell? ⟨wr.heap.size, 1, none⟩ = some (.slice a1 f.text.length c1) := by rw [cell_of_row _ _ 1 _ _ (0, 0) (heap_alloc_new _ _)]; rfl
      have hb2 := hb.trans (hB1.mono hsz)
      have hft := hft.keep (hB1.mono hsz)
      clear hf
      by_cases he : f.path = path
      · have hd : decide (f.path = path) = true := decide_eq_true he
        have HN := Lib.hid (HM.out.symm.trans (getT_hit HA.out hlt (by rw [← HF.out]; exact he)))
        clear he
        go_wp2_with fail
        refine (copyText_any _ f.text _ hft.rd (by omega)).mono ?_
        rintro e w5 ⟨a5, c5, rfl, hC, hb5⟩
        go_wp2
        go_ret2
        exact ⟨_, by rw [HN.out]; rfl, by rw [HN.out, ← HF.out]; exact hC.mono hb2.size (Nat.le_refl _), hb2.trans (hb5.mono hb2.size)⟩
      · have hd : decide (f.path = path) = false := decide_eq_false he
        have HN := Lib.hid (getT_next HA.out hlt (by rw [← HF.out]; exact he))
        clear he
        go_wp2
        go_roundw
        case rel => exact ⟨⟨k + 1, by omega, by go_num, HN.out⟩, hb2⟩
        case measure => simp [intOf] <;> omega
    · have HN := Lib.hid (HM.out.symm.trans (getT_end HA.out hlt))
      go_wp2
      go_ret2
      exact ⟨.slice none 0 0, by rw [HN.out]; rfl, by rw [HN.out]; exact Fresh.nil _ _ _ (by decide), hb⟩

set_option maxHeartbeats 4000000 in
set_option maxRecDepth 100000 in
theorem l4Get_any {S : Nat → Prop} (v : Value) (t : List File) (path : ByteArray) (w : World) (hv : rd S w [v] t) {M : Option (List ByteArray)} (hM : getT t path = M) :
    Calls Tryz.prog 40 #[v, .string path] w fun e w' => ∃ v', e = .returned (.tuple #[v', .bool M.isSome]) ∧ rd (fun b => b < w.heap.size) w [v'] (M.getD []) ∧ w' = w := by
  obtain ⟨a, cap, rfl, hs⟩ := rd_slice_elim (Rep.lt hv)
  have hle := hs.le
  have HM := Lib.hid hM
  clear hM
  go_enter Tryz.func40, Tryz.ntmps40
  go_wp2
  go_loopw [6] (fun i wr => (∃ k : Nat, k ≤ t.length ∧ i = .int .i64 k ∧ Hid (getT t path = getT (t.drop k) path)) ∧ wr = w) (fun i _ => t.length - (intOf i).toNat)
  case atStart => exact ⟨⟨0, by omega, rfl, rfl⟩, rfl⟩
  case round =>
    obtain ⟨⟨k, hk, rfl, HA⟩, rfl⟩ := hrel
    by_cases hlt : k < t.length
    · obtain ⟨g, off, a1, c1, rfl, hc1, hc2, hz1, hft⟩ := hs.file hlt
      obtain ⟨f, hf⟩ : ∃ f, f = t[k] := ⟨_, rfl⟩
      rw [← hf] at hc1 hc2 hz1 hft
      have HF := Lib.hid hf
      clear hf
      by_cases he : f.path = path
      · have hd : decide (f.path = path) = true := decide_eq_true he
        have HN := Lib.hid (HM.out.symm.trans (getT_hit HA.out hlt (by rw [← HF.out]; exact he)))
        clear he
        go_wp2
        go_ret2
        exact ⟨_, by rw [HN.out]; rfl, by rw [HN.out, ← HF.out]; exact hft.rd, rfl⟩
      · have hd : decide (f.path = path) = false := decide_eq_false he
        have HN := Lib.hid (getT_next HA.out hlt (by rw [← HF.out]; exact he))
        clear he
        go_wp2
        go_roundw
        case rel => exact ⟨⟨k + 1, by omega, by go_num, HN.out⟩, trivial⟩
        case measure => simp [intOf] <;> omega
    · have HN := Lib.hid (HM.out.symm.trans (getT_end HA.out hlt))
      go_wp2
      go_ret2
      exact ⟨.slice none 0 0, by rw [HN.out]; rfl, by rw [HN.out]; exact rd_slice_nil _ _, rfl⟩

end Go.Proofs.YthddcfbjgcbioaaGreatDoor
namespace Go.Proofs.YthddcfbjgcbioaaGreatDoor
open Go.RowKit Go.Vc
open Go.Vc.Rep (rd)
open Go.Vc.Own (own)

set_option maxHeartbeats 1000000 in
theorem slHasPrefix_is (s p : ByteArray) (w : World) (hs : s.size ≤ maxLen) (hp : p.size ≤ maxLen) {b : Bool} (hb : pfxB p s = b) :
    Calls Tryz.prog 83 #[.string s, .string p] w fun e w' => e = .returned (.bool b) ∧ w = w' := by
  subst hb
  unfold maxLen at hs hp
  by_cases hl : p.size ≤ s.size
  · have H := Lib.hid (pfxB_of hl)
    cases he : decide (s.extract 0 p.size = p) with
    | true =>
      rw [he] at H
      go_enter Tryz.func83, Tryz.ntmps83
      go_wp2
      go_ret
      exact ⟨ret_bool H.out.symm, rfl⟩
    | false =>
      rw [he] at H
      go_enter Tryz.func83, Tryz.ntmps83
      go_wp2
      go_ret
      exact ⟨ret_bool H.out.symm, rfl⟩
  · have H := Lib.hid (pfxB_long hl)
    go_enter Tryz.func83, Tryz.ntmps83
    go_wp2
    go_ret
    exact ⟨ret_bool H.out.symm, rfl⟩

theorem get_some {S : Nat → Prop} (v : Value) (t : List File) (path : ByteArray) (w : World) (hv : rd S w [v] t) (hx : ∀ f, f ∈ t → f.text.length ≤ 10) {x : List ByteArray} (hM : getT t path = some x) :
    Calls Tryz.prog 33 #[v, .string path] w fun e w' => ∃ v', e = .returned (.tuple #[v', .bool true]) ∧ Fresh w.heap.size w'.heap.size w' [v'] x ∧ Below w.heap.size w w' := get_any v t path w hv hx hM
theorem get_none {S : Nat → Prop} (v : Value) (t : List File) (path : ByteArray) (w : World) (hv : rd S w [v] t) (hx : ∀ f, f ∈ t → f.text.length ≤ 10) (hM : getT t path = none) :
    Calls Tryz.prog 33 #[v, .string path] w fun e w' => ∃ v', e = .returned (.tuple #[v', .bool false]) ∧ Below w.heap.size w w' :=
  (get_any v t path w hv hx hM).mono fun e w' ⟨v', h, _, hb⟩ => ⟨v', h, hb⟩
theorem l4Get_some {S : Nat → Prop} (v : Value) (t : List File) (path : ByteArray) (w : World) (hv : rd S w [v] t) {x : List ByteArray} (hM : getT t path = some x) :
    Calls Tryz.prog 40 #[v, .string path] w fun e w' => ∃ v', e = .returned (.tuple #[v', .bool true]) ∧ rd (fun b => b < w.heap.size) w [v'] x ∧ w = w' :=
  (l4Get_any v t path w hv hM).mono fun e w' ⟨v', h, hr, hw⟩ => ⟨v', h, hr, hw.symm⟩
theorem l4Get_none {S : Nat → Prop} (v : Value) (t : List File) (path : ByteArray) (w : World) (hv : rd S w [v] t) (hM : getT t path = none) :
    Calls Tryz.prog 40 #[v, .string path] w fun e w' => ∃ v', e = .returned (.tuple #[v', .bool false]) ∧ rd (fun b => b < w.heap.size) w [v'] ([] : List ByteArray) ∧ w = w' :=
  (l4Get_any v t path w hv hM).mono fun e w' ⟨v', h, hr, hw⟩ => ⟨v', h, hr, hw.symm⟩
end Go.Proofs.YthddcfbjgcbioaaGreatDoor
namespace Go.Proofs.YthddcfbjgcbioaaGreatDoor
open Go.RowKit Go.Vc
open Go.Vc.Rep (rd)
open Go.Vc.Own (own)

theorem own_strm {s : ByteArray} (h : s.size ≤ maxLen) (w : World) : Go.Vc.Own.own [] w [.string s] s := ⟨rfl, rfl, h⟩
end Go.Proofs.YthddcfbjgcbioaaGreatDoor
