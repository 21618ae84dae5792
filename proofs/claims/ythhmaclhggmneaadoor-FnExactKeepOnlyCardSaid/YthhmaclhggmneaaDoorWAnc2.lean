/-
  Walks: lists of commits, as the program has them.
-/
import Derived.Test.YthhmaclhggmneaaDoorVK
import Derived.Test.YthhmaclhggmneaaDoorWRepo
set_option linter.unusedVariables false
namespace Go.Proofs.YthhmaclhggmneaaDoor
open Go.RowKit Go.Vc
open Go.Vc.Rep (rd)
open Go.Vc.Own (own)

set_option maxHeartbeats 4000000 in
theorem listOf_any {S : Nat → Prop} (v : Value) (ms : List Bool) (w : World) (hv : rd S w [v] ms) (hl : ms.length ≤ 1000) :
    Calls Tryd.prog 31 #[v] w fun e w' => ∃ v', e = .returned v' ∧ Fresh w.heap.size w'.heap.size w' [v'] (idxs ms 0) ∧ Below w.heap.size w w' := by
  obtain ⟨a, cap, rfl, hs⟩ := rd_slice_elim (Rep.lt hv)
  have hle := hs.le
  go_enter Tryd.func31, Tryd.ntmps31
  go_wp2
  go_loopw [3, 8] (fun out i wr => (∃ (k : Nat) (ol : List Int), k ≤ ms.length ∧ i = .int .i64 k ∧ ol.length ≤ k ∧ Fresh w.heap.size wr.heap.size wr [out] ol ∧ Hid (idxs ms 0 = ol ++ idxs (ms.drop k) k)) ∧ Below w.heap.size w wr) (fun _ i _ => ms.length - (intOf i).toNat)
  case atStart => exact ⟨⟨0, [], by omega, rfl, by simp, Fresh.nil _ _ _ (by decide), rfl⟩, Below.refl _ _⟩
  case round =>
    obtain ⟨⟨k, ol, hk, rfl, hol, hF, HA⟩, hb⟩ := hrel
    obtain ⟨a2, c2, rfl, _⟩ := hF.shape
    have hsz := hb.size
    by_cases hlt : k < ms.length
    · obtain ⟨g, off, rfl, hc⟩ := (hs.keep hb).bool hlt
      cases hm : ms[k] with
      | true =>
        have HN := Lib.hid (idxs_true HA.out hlt hm)
        rw [hm] at hc
        clear hm
        have hi0 : I64 ((k : Nat) : Int) := i64_nat (by omega)
        go_wp2_with (at_builtin; go_must (refine wpList_app_leaf slz_int.slt rfl (.tmp 14) (.tmp 16) rfl rfl (hF.alloc _) (by simp; omega) rfl rfl (lit_ints [(k : Int)] (heap_alloc_new _ _) (by simpa using hi0) (by unfold maxLen; simp)) (by simp; omega) (by unfold maxLen; simp; omega) ?_); intro a5 c5 w5 hG5)
        go_roundw
        case rel => exact ⟨⟨k + 1, ol ++ [(k : Int)], by omega, by go_num, by simp; omega, by have := hG5.fresh; simpa using this, HN.out⟩, (hb.alloc hsz _).trans hG5.below⟩
        case measure => simp [intOf] <;> omega
      | false =>
        have HN := Lib.hid (idxs_false HA.out hlt hm)
        rw [hm] at hc
        clear hm
        go_wp2
        go_roundw
        case rel => exact ⟨⟨k + 1, ol, by omega, by go_num, by omega, hF, HN.out⟩, hb⟩
        case measure => simp [intOf] <;> omega
    · have HN := Lib.hid (idxs_end HA.out hlt)
      go_wp2
      go_ret
      exact ⟨_, rfl, by rw [HN.out]; exact hF, hb⟩



end Go.Proofs.YthhmaclhggmneaaDoor
