/-
  Walks: the reader opened.
-/
import Derived.Test.YtlokkbllplhlbaaDraw4
set_option linter.unusedVariables false
namespace Go.Proofs.Ytlokkbllplhlbaa
open Go.RowKit Go.Vc
open Go.Vc.Rep (rd)
open Go.Vc.Own (own)

theorem slt_byte : SlT Try.prog 31 UInt8 1 := by
  obtain ⟨i, h1, h2, h3, h4⟩ := info_parts (show (Try.prog.info? 5).map (fun i => (i.zero, i.size, i.bytes)) = some (some (.int .u8 0), 1, 1) by kernel_rfl)
  exact ⟨Try.underlying31, ⟨i, _, h1, h2, h3, h4, rfl⟩, Nat.one_pos⟩

set_option maxHeartbeats 1000000 in
theorem l30Open_any {S : Nat → Prop} (v : Value) (bs : List UInt8) (w : World) (hv : rd S w [v] bs) (hl : bs.length ≤ 1048576) :
    Calls Try.prog 55 #[v] w fun e w' => e = .returned (.pointer (some ⟨w.heap.size, 0, none⟩)) ∧ RdOk w' w.heap.size 0 ∧ Below w.heap.size w w' ∧ w'.heap.size = w.heap.size + 1 := by
  obtain ⟨a, cap, rfl, hs⟩ := rd_slice_elim (Rep.lt hv)
  by_cases h2 : 2000 < bs.length
  · have hct : ∀ w, (Instr.slice 31 (.slice a bs.length cap) none (some (.int .i64 2000)) none).run Try.prog w = .ok (.slice a 2000 cap) w := fun w => run_cut0 slt_byte a bs.length cap 2000 (by have := hs.1; omega) w
    have hcl : (bs.take 2000).length = 2000 := by simp; omega
    have hs2 := (hs.take 2000).alloc (.cells #[.slice a 2000 cap, .int .i64 0] 90)
    go_enter Try.func55, Try.ntmps55
    go_wp2
    go_ret
    exact ⟨rfl, ⟨a, cap, 0, bs.take 2000, _, (by rw [hcl]; exact heap_alloc_new _ _), Nat.le_refl _, hs2, by omega⟩, ((Below.refl _ _).alloc (by simp <;> omega) _), by simp⟩
  · have hs2 := hs.alloc (.cells #[.slice a bs.length cap, .int .i64 0] 90)
    go_enter Try.func55, Try.ntmps55
    go_wp2
    go_ret
    exact ⟨rfl, ⟨a, cap, 0, bs, _, heap_alloc_new _ _, Nat.le_refl _, hs2, by omega⟩, ((Below.refl _ _).alloc (by simp <;> omega) _), by simp⟩

end Go.Proofs.Ytlokkbllplhlbaa
