/-
  Walks: the reader opened, two texts drawn.
-/
import Derived.Test.YtjfhbepnomnalaaDraw4
namespace Go.Proofs.Ytjfhbepnomnalaa
open Go.RowKit Go.Vc
open Go.Vc.Rep (rd)
open Go.Vc.Own (own)

theorem slt_byte : SlT Try.prog 38 UInt8 1 := by
  obtain ⟨i, h1, h2, h3, h4⟩ := info_parts (show (Try.prog.info? 5).map (fun i => (i.zero, i.size, i.bytes)) = some (some (.int .u8 0), 1, 1) by kernel_rfl)
  exact ⟨Try.underlying38, ⟨i, _, h1, h2, h3, h4, rfl⟩, Nat.one_pos⟩

set_option maxHeartbeats 1000000 in
theorem l30Open_any {S : Nat → Prop} (v : Value) (bs : List UInt8) (w : World) (hv : rd S w [v] bs) (hl : bs.length ≤ 1048576) :
    Calls Try.prog 69 #[v] w fun e w' => e = .returned (.pointer (some ⟨w.heap.size, 0, none⟩)) ∧ RdOk w' w.heap.size 0 ∧ Below w.heap.size w w' ∧ w'.heap.size = w.heap.size + 1 := by
  obtain ⟨a, cap, rfl, hs⟩ := rd_slice_elim (Rep.lt hv)
  by_cases h2 : 2000 < bs.length
  · have hct : ∀ w, (Instr.slice 38 (.slice a bs.length cap) none (some (.int .i64 2000)) none).run Try.prog w = .ok (.slice a 2000 cap) w := fun w => run_cut0 slt_byte a bs.length cap 2000 (by have := hs.1; omega) w
    have hcl : (bs.take 2000).length = 2000 := by simp; omega
    have hs2 := (hs.take 2000).alloc (.cells #[.slice a 2000 cap, .int .i64 0] 99)
    go_enter Try.func69, Try.ntmps69
    go_wp2
    go_ret
    exact ⟨rfl, ⟨a, cap, 0, bs.take 2000, _, (by rw [hcl]; exact heap_alloc_new _ _), Nat.le_refl _, hs2, by omega⟩, ((Below.refl _ _).alloc (by simp <;> omega) _), by simp⟩
  · have hs2 := hs.alloc (.cells #[.slice a bs.length cap, .int .i64 0] 99)
    go_enter Try.func69, Try.ntmps69
    go_wp2
    go_ret
    exact ⟨rfl, ⟨a, cap, 0, bs, _, heap_alloc_new _ _, Nat.le_refl _, hs2, by omega⟩, ((Below.refl _ _).alloc (by simp <;> omega) _), by simp⟩

/-- two texts drawn -/
def TwoTexts (w : World) (e : Ending) (w' : World) : Prop :=
  ∃ (v u : Value) (xs ys : List ByteArray), e = .returned (.tuple #[v, u]) ∧ xs.length ≤ 18 ∧ ys.length ≤ 18 ∧ rd (fun b => w.heap.size ≤ b) w' [v] xs ∧ rd (fun b => w.heap.size ≤ b) w' [u] ys ∧ Below w.heap.size w w'

set_option maxHeartbeats 1000000 in
theorem l30Two_any {S : Nat → Prop} (v : Value) (bs : List UInt8) (w : World) (hv : rd S w [v] bs) (hl : bs.length ≤ 1048576) :
    Calls Try.prog 67 #[v] w (TwoTexts w) := by
  go_enter Try.func67, Try.ntmps67
  go_wp2_with fail
  refine (l30Open_any v bs w hv hl).mono ?_
  rintro e w1 ⟨rfl, hr, hb, hsz⟩
  go_wp2_with fail
  refine (l30AnyText_any _ _ _ hr (by omega)).mono ?_
  rintro e w2 ⟨v, xs, rfl, hx, hF, hd, hr⟩
  have hsz2 := hd.size
  go_wp2_with fail
  refine (pick_any _ _ _ _ hr (by omega) (by omega)).mono ?_
  rintro e w3 ⟨k, rfl, hk, hd3, hr3⟩
  have hF3 := (hd3.fresh hF (.inl (by omega))).now
  have hd4 := hd.tr hd3
  have hsz3 := hd3.size
  by_cases h0 : k = 0
  · subst h0
    go_wp2_with fail
    refine (l30AnyText_any _ _ _ hr3 (by omega)).mono ?_
    rintro e w4 ⟨u, ys, rfl, hy, hG, hd5, hr5⟩
    have hF5 := hd5.fresh hF3 (.inl (by omega))
    have hd6 := hd4.tr hd5
    go_wp2
    go_ret2
    exact ⟨v, u, xs, ys, rfl, hx, hy, Rep.mono (fun b hb => by omega) hF5.rd, Rep.mono (fun b hb => by omega) hG.rd, hb.trans (hd6.low (Nat.le_refl _) (by omega))⟩
  · have h0' := nat_eq_f h0
    go_wp2_with fail
    refine (l30Turn_any _ _ _ _ _ hr3 (by omega) hF3.rd hx).mono ?_
    rintro e w4 ⟨u, ys, rfl, hy, hG, hd5, hr5⟩
    have hF5 := hd5.fresh hF3 (.inl (by omega))
    have hd6 := hd4.tr hd5
    go_wp2
    go_ret2
    exact ⟨v, u, xs, ys, rfl, hx, hy, Rep.mono (fun b hb => by omega) hF5.rd, Rep.mono (fun b hb => by omega) hG.rd, hb.trans (hd6.low (Nat.le_refl _) (by omega))⟩

set_option maxHeartbeats 1000000 in
theorem drawDeltaOf_any {S : Nat → Prop} (v : Value) (bs : List UInt8) (w : World) (hv : rd S w [v] bs) (hl : bs.length ≤ 1048576) :
    Calls Try.prog 31 #[v] w (TwoTexts w) := by
  go_enter Try.func31, Try.ntmps31
  go_wp2_with fail
  refine (l30Two_any v bs w hv hl).mono ?_
  rintro e w1 ⟨v, u, xs, ys, rfl, r⟩
  go_wp2
  go_ret2
  exact ⟨v, u, xs, ys, rfl, r⟩
end Go.Proofs.Ytjfhbepnomnalaa
