/-
  Walks: what the law of patches that are apart draws.
-/
import Derived.Test.YtlpfoekbccbhlaaDrawPO
import Derived.Test.YtlpfoekbccbhlaaLits
set_option linter.unusedVariables false
namespace Go.Vc
/-- the text of eight lines -/
def T8 : List ByteArray := [⟨#[49]⟩, ⟨#[50]⟩, ⟨#[51]⟩, ⟨#[52]⟩, ⟨#[53]⟩, ⟨#[54]⟩, ⟨#[55]⟩, ⟨#[56]⟩]
theorem T8_nodup : T8.Nodup := by decide
theorem T8_ok : ∀ s ∈ T8, s.size ≤ maxLen := by decide
end Go.Vc
namespace Go.Proofs.Ytlpfoekbccbhlaa
open Go.RowKit Go.Vc
open Go.Vc.Rep (rd)
open Go.Vc.Own (own)
set_option maxHeartbeats 4000000 in
set_option maxRecDepth 100000 in
theorem drawPatchFree_any {S : Nat → Prop} (v : Value) (bs : List UInt8) (w : World) (hv : rd S w [v] bs) (hl : bs.length ≤ 1048576) :
    Calls Try.prog 13 #[v] w fun e w' => ∃ (u1 u2 : Value) (a b : List Hunk), e = .returned (.tuple #[u1, u2]) ∧ rd (fun b => w.heap.size ≤ b) w' [u1] a ∧ rd (fun b => w.heap.size ≤ b) w' [u2] b ∧ Below w.heap.size w w' := by
  go_enter Try.func13, Try.ntmps13
  go_wp2_with fail
  refine (l30Open_any v bs w hv hl).mono ?_
  rintro e w1 ⟨rfl, hr, hb, hsz'⟩
  have hsz : w.heap.size < w1.heap.size := by omega
  clear hsz'
  obtain ⟨wl, hwl⟩ : ∃ wl, wl = w1.alloc (.cells (T8.map Value.string).toArray 9) := ⟨_, rfl⟩
  have hBl : Below w1.heap.size w1 wl := by rw [hwl]; exact (Below.refl _ _).alloc (Nat.le_refl _) _
  have hT : IsSlice (fun b => b = w1.heap.size) wl (some ⟨w1.heap.size, 0, none⟩) T8.length T8 := lit_strs T8 (by rw [hwl]; exact heap_alloc_new _ _) T8_ok (by decide)
  have HWL := Lib.hid hwl
  have hr := hr.below hr.lt hBl
  have ht := hT.rd
  have hsl : w1.heap.size ≤ wl.heap.size := hBl.size
  clear hwl
  go_wp2_with fail
  have HW2 : w1.alloc (.cells #[.string ⟨#[49]⟩, .string ⟨#[50]⟩, .string ⟨#[51]⟩, .string ⟨#[52]⟩, .string ⟨#[53]⟩, .string ⟨#[54]⟩, .string ⟨#[55]⟩, .string ⟨#[56]⟩] 9) = wl := HWL.out.symm
  rw [HW2]
  clear HW2
  refine (l30Patch_any _ _ _ T8 _ hr (by omega) ht (fun b hb => by omega) (by decide)).mono ?_
  rintro e w3 ⟨u1, a, rfl, ha, hd3, hr3⟩
  obtain ⟨aa, ca, hav, _⟩ := rd_slice_elim ha
  subst hav
  have ht := hd3.rdS ht (fun b hb => by omega)
  have hs3 := hd3.size
  go_wp2_with fail
  refine (l30Patch_any _ _ _ T8 _ hr3 (by omega) ht (fun b hb => by omega) (by decide)).mono ?_
  rintro e w4 ⟨u2, b, rfl, hb2, hd4, hr4⟩
  obtain ⟨ab, cb, hbv, _⟩ := rd_slice_elim hb2
  subst hbv
  have ha := hd4.rdS ha (fun b hb => by omega)
  have hd := hd3.tr hd4
  go_wp2
  refine bodyPost_ret (results_tmp2 rfl _ _ _) rfl ?_
  exact ⟨_, _, a, b, rfl, Rep.mono (fun b hb => by omega) ha, Rep.mono (fun b hb => by omega) hb2, (hb.trans (hBl.mono (by omega))).trans (hd.low (Nat.le_refl _) (by omega))⟩
end Go.Proofs.Ytlpfoekbccbhlaa
