/-
  Walks: the text at a path.
-/
import Derived.Test.YthhmaclhggmneaaGreatDoorWCopy
import Derived.Test.YthhmaclhggmneaaGreatDoorPlBlame
import Derived.Test.YthhmaclhggmneaaGreatDoorWAnc2
import Derived.Test.YthhmaclhggmneaaGreatDoorVL
set_option linter.unusedVariables false
namespace Go.Proofs.YthhmaclhggmneaaGreatDoor
open Go.RowKit Go.Vc
open Go.Vc.Rep (rd)
open Go.Vc.Own (own)

set_option maxHeartbeats 4000000 in
set_option maxRecDepth 100000 in
theorem get_any {S : Nat → Prop} (v : Value) (t : List File) (path : ByteArray) (w : World) (hv : rd S w [v] t) (hx : ∀ f, f ∈ t → f.text.length ≤ 10) {M : Option (List ByteArray)} (hM : getT t path = M) :
    Calls Tryz.prog 53 #[v, .string path] w fun e w' => ∃ v', e = .returned (.tuple #[v', .bool M.isSome]) ∧ Fresh w.heap.size w'.heap.size w' [v'] (M.getD []) ∧ Below w.heap.size w w' := by
  obtain ⟨a, cap, rfl, hs⟩ := rd_slice_elim (Rep.lt hv)
  have hle := hs.le
  have HM := Lib.hid hM
  clear hM
  go_enter Tryz.func53, Tryz.ntmps53
  go_wp2
  go_loopw [10] (fun i wr => (∃ k : Nat, k ≤ t.length ∧ i = .int .i64 k ∧ Hid (getT t path = getT (t.drop k) path)) ∧ Below w.heap.size w wr) (fun i _ => t.length - (intOf i).toNat)
  case atStart => exact ⟨⟨0, by omega, rfl, rfl⟩, Below.refl _ _⟩
  case round =>
    obtain ⟨⟨k, hk, rfl, HA⟩, hb⟩ := hrel
    have hsz := hb.size
    by_cases hlt : k < t.length
    · obtain ⟨g, off, a1, c1, rfl, hc1, hc2, hz1, hft⟩ := (hs.keep hb).file hlt
      have hx10 := hx t[k] (List.getElem_mem hlt)
      obtain ⟨f, hf⟩ : ∃ f, f = t[k] := ⟨_, rfl⟩
      rw [← hf] at hc1 hc2 hz1 hft hx10
      have HF := Lib.hid hf
      have hB1 : Below wr.heap.size wr (wr.alloc (.cells #[.string f.path, .slice a1 f.text.length c1] 101)) := (Below.refl _ _).alloc (Nat.le_refl _) _
      have q0 : (wr.alloc (.cells #[.string f.path, .slice a1 f.text.length c1] 101)).cell? ⟨wr.heap.size, 0, none⟩ = some (.string f.path) := by rw [cell_of_row _ _ 0 _ _ (0, 0) (heap_alloc_new _ _)]; rfl
      have q1 : (wr.alloc (.cells #[.string f.path, .slice a1 f.text.length c1] 101)).cell? ⟨wr.heap.size, 1, none⟩ = some (.slice a1 f.text.length c1) := by rw [cell_of_row _ _ 1 _ _ (0, 0) (heap_alloc_new _ _)]; rfl
      have hb2 := hb.trans (hB1.mono hsz)
      have hft := hft.keep (hB1.mono hsz)
      clear hf
      by_cases he : f.path = path
      · have hd : decide (f.path = path) = true := decide_eq_true he
        have HN := Lib.hid (HM.out.symm.trans (getT_hit HA.out hlt (by rw [← HF.out]; exact he)))
        clear he
        go_wp2_with fail
        refine (copyText_any _ f.text _ hft.rd (by omega)).mono ?_
        rintro e w5 ⟨a5, c5, rfl, hC, hb5⟩
        go_wp2
        go_ret2
        exact ⟨_, by rw [HN.out]; rfl, by rw [HN.out, ← HF.out]; exact hC.mono hb2.size (Nat.le_refl _), hb2.trans (hb5.mono hb2.size)⟩
      · have hd : decide (f.path = path) = false := decide_eq_false he
        have HN := Lib.hid (getT_next HA.out hlt (by rw [← HF.out]; exact he))
        clear he
        go_wp2
        go_roundw
        case rel => exact ⟨⟨k + 1, by omega, by go_num, HN.out⟩, hb2⟩
        case measure => simp [intOf] <;> omega
    · have HN := Lib.hid (HM.out.symm.trans (getT_end HA.out hlt))
      go_wp2
      go_ret2
      exact ⟨.slice none 0 0, by rw [HN.out]; rfl, by rw [HN.out]; exact Fresh.nil _ _ _ (by decide), hb⟩

set_option maxHeartbeats 4000000 in
set_option maxRecDepth 100000 in
theorem l4Get_any {S : Nat → Prop} (v : Value) (t : List File) (path : ByteArray) (w : World) (hv : rd S w [v] t) {M : Option (List ByteArray)} (hM : getT t path = M) :
    Calls Tryz.prog 47 #[v, .string path] w fun e w' => ∃ v', e = .returned (.tuple #[v', .bool M.isSome]) ∧ rd (fun b => b < w.heap.size) w [v'] (M.getD []) ∧ w' = w := by
  obtain ⟨a, cap, rfl, hs⟩ := rd_slice_elim (Rep.lt hv)
  have hle := hs.le
  have HM := Lib.hid hM
  clear hM
  go_enter Tryz.func47, Tryz.ntmps47
  go_wp2
  go_loopw [6] (fun i wr => (∃ k : Nat, k ≤ t.length ∧ i = .int .i64 k ∧ Hid (getT t path = getT (t.drop k) path)) ∧ wr = w) (fun i _ => t.length - (intOf i).toNat)
  case atStart => exact ⟨⟨0, by omega, rfl, rfl⟩, rfl⟩
  case round =>
    obtain ⟨⟨k, hk, rfl, HA⟩, rfl⟩ := hrel
    by_cases hlt : k < t.length
    · obtain ⟨g, off, a1, c1, rfl, hc1, hc2, hz1, hft⟩ := hs.file hlt
      obtain ⟨f, hf⟩ : ∃ f, f = t[k] := ⟨_, rfl⟩
      rw [← hf] at hc1 hc2 hz1 hft
      have HF := Lib.hid hf
      clear hf
      by_cases he : f.path = path
      · have hd : decide (f.path = path) = true := decide_eq_true he
        have HN := Lib.hid (HM.out.symm.trans (getT_hit HA.out hlt (by rw [← HF.out]; exact he)))
        clear he
        go_wp2
        go_ret2
        exact ⟨_, by rw [HN.out]; rfl, by rw [HN.out, ← HF.out]; exact hft.rd, rfl⟩
      · have hd : decide (f.path = path) = false := decide_eq_false he
        have HN := Lib.hid (getT_next HA.out hlt (by rw [← HF.out]; exact he))
        clear he
        go_wp2
        go_roundw
        case rel => exact ⟨⟨k + 1, by omega, by go_num, HN.out⟩, trivial⟩
        case measure => simp [intOf] <;> omega
    · have HN := Lib.hid (HM.out.symm.trans (getT_end HA.out hlt))
      go_wp2
      go_ret2
      exact ⟨.slice none 0 0, by rw [HN.out]; rfl, by rw [HN.out]; exact rd_slice_nil _ _, rfl⟩

set_option maxHeartbeats 2000000 in
set_option maxRecDepth 100000 in
theorem first_is {S : Nat → Prop} (v0 v1 : Value) (cs : List Commit) (i : Int) (w : World) (h0 : rd S w [v0] cs) (hi : 0 ≤ i) (hl : i < (cs.length : Int)) {p : Int} (hp : ((cs.getD i.toNat noCommit).parents.head?).getD (-1) = p) :
    Calls Tryz.prog 55 #[.agg #[v0, v1], .int .i64 i] w fun e w' => e = .returned (.int .i64 p) ∧ Below w.heap.size w w' := by
  obtain ⟨a, cap, rfl, hs⟩ := rd_slice_elim (Rep.lt h0)
  obtain ⟨k, rfl⟩ : ∃ k : Nat, i = (k : Int) := ⟨i.toNat, by omega⟩
  have hk : k < cs.length := by omega
  have hB0 : Below w.heap.size w (w.alloc (.cells #[.slice a cs.length cap, v1] 32)) := ((Below.refl _ _).alloc (by simp <;> omega) _)
  obtain ⟨g, off, ap, np, at_, nt, rfl, hc0, hc1, hc2, hpar, hz1, htr⟩ := hs.commit hk
  rw [Int.toNat_natCast, getD_com hk] at hp
  have hc0 := keepc hc0 hB0
  have hlp := hpar.le
  obtain ⟨ps, hps⟩ : ∃ ps, ps = cs[k].parents := ⟨_, rfl⟩
  rw [← hps] at hc0 hpar hlp hp
  have HP := Lib.hid hp
  clear hp hps hc1 hc2 htr
  by_cases h00 : ps.length = 0
  · have hd0 : ((ps.length : Int) == 0) = true := by simp [h00]
    have HN : Hid (p = -1) := by show _ = _; rw [← HP.out, List.eq_nil_of_length_eq_zero h00]; rfl
    clear h00
    go_enter Tryz.func55, Tryz.ntmps55
    go_wp2
    go_ret
    exact ⟨ret_int HN.out.symm, hB0⟩
  · have hd0 : ((ps.length : Int) == 0) = false := by rw [beq_eq_false_iff_ne]; omega
    have hpos : 0 < ps.length := by omega
    obtain ⟨g2, off2, rfl, hd, _⟩ := (hpar.keep hB0).int (i := 0) hpos
    have HN : Hid (p = ps[0]) := by show _ = _; rw [← HP.out]; cases ps with | nil => simp at hpos | cons x r => rfl
    rw [Nat.add_zero] at hd
    have hone : (0 : Int) < ps.length := by omega
    clear h00
    go_enter Tryz.func55, Tryz.ntmps55
    go_wp2
    go_ret
    exact ⟨ret_int HN.out.symm, hB0⟩
end Go.Proofs.YthhmaclhggmneaaGreatDoor
