/-
  Walks: the laws' own helpers on []string.
-/
import Derived.Test.YtjfhbepnomnalaaW1
namespace Go.Proofs.Ytjfhbepnomnalaa
open Go.RowKit Go.Vc
open Go.Vc.Rep (rd)
open Go.Vc.Own (own)

set_option maxHeartbeats 400000 in
theorem toStringS_any {S : Nat → Prop} (v : Value) (xs : List ByteArray) (w : World) (hv : rd S w [v] xs) (hlen : xs.length ≤ 1048576) :
    Calls Try.prog 22 #[v] w fun e w' => ∃ v', e = .returned v' ∧ Fresh w.heap.size w'.heap.size w' [v'] xs ∧ Below w.heap.size w w' := by
  obtain ⟨a, cap, rfl, hs⟩ := rd_slice_elim (Rep.lt hv)
  have hmk := slz_string.make xs.length (by omega) (by unfold maxLen; omega)
  go_enter Try.func22, Try.ntmps22
  go_wp2
  clear hmk
  go_loopw [4] (fun i wr => (∃ k : Nat, k ≤ xs.length ∧ i = .int .i64 k ∧ Fresh w.heap.size wr.heap.size wr [.slice (some ⟨w.heap.size, 0, none⟩) xs.length xs.length] (fill xs (⟨#[]⟩ : ByteArray) k)) ∧ Below w.heap.size w wr) (fun i _ => xs.length - (intOf i).toNat)
  case atStart => exact ⟨⟨0, by omega, rfl, by rw [fill_zero]; exact (Fresh.made slz_string.hz slz_string.pos _ _ (by unfold maxLen; omega) (Nat.le_refl _)).now⟩, (Below.refl _ _).alloc (Nat.le_refl _) _⟩
  case round =>
    obtain ⟨⟨k, hk, rfl, hF⟩, hb⟩ := hrel
    by_cases hlt : k < xs.length
    · obtain ⟨g, off, rfl, hc, hsz⟩ := (hs.keep hb).str hlt
      obtain ⟨⟨u, hu⟩, hfz, _, _⟩ := hF.there1 rfl (i := k) (by rw [fill_len _ _ _ hk]; exact hlt)
      go_wp2
      go_roundw
      case rel => exact ⟨⟨k + 1, by omega, by go_num, by have := hF.set1 rfl (by rw [fill_len _ _ _ hk]; exact hlt) (Fresh.leaf (m := wr.heap.size) ⟨rfl, rfl, hsz⟩) hb.size; rw [fill_next _ _ _ hlt] at this; exact this⟩, hb.setCell (Nat.le_refl _) _⟩
      case measure => simp [intOf]; omega
    · go_wp2
      go_ret
      exact ⟨_, rfl, by have := hF.now; rw [fill_all _ _ _ hlt] at this; exact this, hb⟩
end Go.Proofs.Ytjfhbepnomnalaa
