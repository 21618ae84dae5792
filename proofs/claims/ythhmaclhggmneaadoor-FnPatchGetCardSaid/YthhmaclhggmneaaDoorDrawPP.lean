/-
  Walks: what the laws of written patches draw.
-/
import Derived.Test.YthhmaclhggmneaaDoorDrawPO
import Derived.Test.YthhmaclhggmneaaDoorWPutS
import Derived.Test.YthhmaclhggmneaaDoorWP1
set_option linter.unusedVariables false
namespace Go.Proofs.YthhmaclhggmneaaDoor
open Go.RowKit Go.Vc
open Go.Vc.Rep (rd)
open Go.Vc.Own (own)
theorem specPatchOk_is {S : Nat → Prop} (v : Value) (d : List Hunk) (w : World) (hv : rd S w [v] d) {b : Bool} (h : patchB d = b) :
    Calls Tryd.prog 17 #[v] w fun e w' => e = .returned (.bool b) ∧ Below w.heap.size w w' := by
  go_enter Tryd.func17, Tryd.ntmps17
  go_wp2_with fail
  refine (l2Ok_is _ d _ hv h).mono ?_
  rintro e w1 ⟨rfl, hb1⟩
  go_wp2
  go_ret
  exact ⟨rfl, hb1⟩
def nineT : List ByteArray := [⟨#[48]⟩, ⟨#[49]⟩, ⟨#[32]⟩, ⟨#[45]⟩, ⟨#[43]⟩, ⟨#[10]⟩, ⟨#[64]⟩, ⟨#[124]⟩, ⟨#[120]⟩]
def fiveT : List ByteArray := [⟨#[48]⟩, ⟨#[32]⟩, ⟨#[10]⟩, ⟨#[124]⟩, ⟨#[43, 120, 10]⟩]
theorem nine_small : ∀ x ∈ nineT, x.size ≤ 3 := by
  intro x hx
  simp only [nineT, List.mem_cons, List.not_mem_nil, or_false] at hx
  rcases hx with rfl | rfl | rfl | rfl | rfl | rfl | rfl | rfl | rfl <;> decide
theorem five_small : ∀ x ∈ fiveT, x.size ≤ 3 := by
  intro x hx
  simp only [fiveT, List.mem_cons, List.not_mem_nil, or_false] at hx
  rcases hx with rfl | rfl | rfl | rfl | rfl <;> decide
set_option maxHeartbeats 4000000 in
set_option maxRecDepth 100000 in
theorem l30Bent_any (rb N : Nat) (s : ByteArray) (w : World) (h : RdOk w rb N) (hN : N ≤ 900000) (hs : s.size ≤ 100000) :
    Calls Tryd.prog 55 #[.pointer (some ⟨rb, 0, none⟩), .string s] w fun e w' => ∃ t, e = .returned (.string t) ∧ t.size ≤ s.size + 3 ∧ Drew rb w w' ∧ RdOk w' rb (N + 3) := by
  have hlt := h.lt
  go_enter Tryd.func55, Tryd.ntmps55
  go_wp2_with fail
  refine (pick_any rb N _ _ h (by omega) (by omega)).mono ?_
  rintro e w1 ⟨k, rfl, hk, hd1, hr1⟩
  have hk1 : k ≤ s.size := by omega
  clear hk
  go_wp2_with fail
  refine (pick_any rb _ _ _ hr1 (by omega) (by omega)).mono ?_
  rintro e w2 ⟨q, rfl, hq, hd2, hr2⟩
  have hd := hd1.tr hd2
  clear hq hd1 hd2 hr1
  have hlt2 := hr2.lt
  by_cases hq0 : q = 0
  · subst hq0
    by_cases hks : k < s.size
    · have hlit : rd (fun b => b = w2.heap.size) (w2.alloc (.cells (nineT.map Value.string).toArray 9)).drew [.slice (some ⟨w2.heap.size, 0, none⟩) 9 9] nineT := (lit_strs nineT (heap_alloc_new w2 _) (fun x hx => by have := nine_small x hx; unfold maxLen; omega) (by decide)).rd
      have hr3 : RdOk (w2.alloc (.cells (nineT.map Value.string).toArray 9)).drew rb (N + 1 + 1) := hr2.below hlt2 (((Below.refl w2.heap.size w2).alloc (Nat.le_refl _) _).drew)
      have hkk : IntKind.i64.wrap ((k : Int) + 1) = ((k + 1 : Nat) : Int) := by rw [IntWalk.i64_in _ (by omega)]; omega
      have hc3 : (0 : Int) ≤ (k : Int) + 1 := by omega
      have hc4 : (k : Int) + 1 ≤ (s.size : Int) := by omega
      go_wp2_with fail
      go_region_law (go_simp; go_at_call 91; refine (of_any rb _ _ nineT _ hr3 (by omega) hlit (fun b hb => by have h : b = w2.heap.size := hb; omega) (by decide) (by decide)).mono ?_; rintro e w3 ⟨x, rfl, hx, hxz, hd3, hr4⟩; have hx3 := nine_small x hx; have hc1 : ¬ 9223372036854775807 < k + x.size := (by omega); have hc2 : ¬ 9223372036854775807 < k + x.size + (s.size - (k + 1)) := (by omega))
      all_goals
        have hdL : Drew rb w2 (w2.alloc (.cells (nineT.map Value.string).toArray 9)).drew := Drew.of (((Below.refl w2.heap.size w2).alloc (Nat.le_refl _) _).drew)
        have hd9 := (hd.tr hdL).tr hd3
        clear hlit hr3 hd hd3 hr2 hx
        go_wp2
        go_ret
        exact ⟨_, rfl, by simp only [size_app, ByteArray.size_extract]; omega, hd9, hr4.mono (by omega)⟩
    · go_wp2
      go_ret
      exact ⟨s, rfl, by omega, hd, hr2.mono (by omega)⟩
  · have hq0' := nat_eq_f hq0
    by_cases hq1 : q = 1
    · subst hq1
      go_wp2
      go_ret
      exact ⟨_, rfl, by simp only [ByteArray.size_extract]; omega, hd, hr2.mono (by omega)⟩
    · have hq1' := nat_eq_f hq1
      by_cases hq2 : q = 2
      · subst hq2
        have hlit : rd (fun b => b = w2.heap.size) (w2.alloc (.cells (fiveT.map Value.string).toArray 9)) [.slice (some ⟨w2.heap.size, 0, none⟩) 5 5] fiveT := (lit_strs fiveT (heap_alloc_new w2 _) (fun x hx => by have := five_small x hx; unfold maxLen; omega) (by decide)).rd
        have hr3 : RdOk (w2.alloc (.cells (fiveT.map Value.string).toArray 9)) rb (N + 1 + 1) := hr2.below hlt2 ((Below.refl w2.heap.size w2).alloc (Nat.le_refl _) _)
        go_wp2_with fail
        refine (of_any rb _ _ fiveT _ hr3 (by omega) hlit (fun b hb => by have h : b = w2.heap.size := hb; omega) (by decide) (by decide)).mono ?_
        rintro e w3 ⟨x, rfl, hx, hxz, hd3, hr4⟩
        have hx3 := five_small x hx
        have hdL : Drew rb w2 (w2.alloc (.cells (fiveT.map Value.string).toArray 9)) := Drew.of ((Below.refl w2.heap.size w2).alloc (Nat.le_refl _) _)
        have hd9 := (hd.tr hdL).tr hd3
        clear hlit hr3 hd hd3 hr2 hx
        go_wp2
        go_ret
        exact ⟨_, rfl, by simp only [size_app]; omega, hd9, hr4.mono (by omega)⟩
      · have hq2' := nat_eq_f hq2
        go_wp2
        go_ret
        exact ⟨s, rfl, by omega, hd, hr2.mono (by omega)⟩
/-- a patch drawn -/
def PatchD (w : World) (e : Ending) (w' : World) : Prop := ∃ (u : Value) (d : List Hunk), e = .returned u ∧ rd (fun b => w.heap.size ≤ b) w' [u] d ∧ Below w.heap.size w w'
set_option maxHeartbeats 4000000 in
set_option maxRecDepth 100000 in
theorem drawPatchOk_any {S : Nat → Prop} (v : Value) (bs : List UInt8) (w : World) (hv : rd S w [v] bs) (hl : bs.length ≤ 1048576) :
    Calls Tryd.prog 41 #[v] w (PatchD w) := by
  go_enter Tryd.func41, Tryd.ntmps41
  go_wp2_with fail
  refine (l30Open_any v bs w hv hl).mono ?_
  rintro e w1 ⟨rfl, hr, hb, hsz'⟩
  have hsz : w.heap.size < w1.heap.size := by omega
  clear hsz'
  go_wp2_with fail
  refine (l30Text_any _ _ _ hr (by omega)).mono ?_
  rintro e w2 ⟨tv, t, rfl, ht8, hT, hd, hr⟩
  have hs2 := hd.size
  have ht := hT.rd
  go_wp2_with fail
  refine (l30Patch_any _ _ _ t _ hr (by omega) ht (fun b hb => by omega) (by omega)).mono ?_
  rintro e w3 ⟨u1, a, rfl, ha, hd3, hr3⟩
  obtain ⟨aa, ca, hav, _⟩ := rd_slice_elim ha
  subst hav
  have hd4 := hd.tr hd3
  go_wp2
  go_ret
  exact ⟨_, a, rfl, Rep.mono (fun b hb => by omega) ha, hb.trans (hd4.low (Nat.le_refl _) (by omega))⟩
theorem drawPatchPut_any {S : Nat → Prop} (v : Value) (bs : List UInt8) (w : World) (hv : rd S w [v] bs) (hl : bs.length ≤ 1048576) :
    Calls Tryd.prog 13 #[v] w (PatchD w) := by
  go_enter Tryd.func13, Tryd.ntmps13
  go_wp2_with fail
  refine (drawPatchOk_any v bs w hv hl).mono ?_
  rintro e w1 ⟨u, d, rfl, hd, hb⟩
  go_wp2
  go_ret
  exact ⟨u, d, rfl, hd, hb⟩
set_option maxHeartbeats 4000000 in
set_option maxRecDepth 100000 in
theorem drawPatchGet_any {S : Nat → Prop} (v : Value) (bs : List UInt8) (w : World) (hv : rd S w [v] bs) (hl : bs.length ≤ 1048576) :
    Calls Tryd.prog 20 #[v] w fun e w' => ∃ s, e = .returned (.string s) ∧ s.size ≤ 3000 ∧ Below w.heap.size w w' := by
  go_enter Tryd.func20, Tryd.ntmps20
  go_wp2_with fail
  refine (l30Open_any v bs w hv hl).mono ?_
  rintro e w1 ⟨rfl, hr, hb, hsz'⟩
  have hsz : w.heap.size < w1.heap.size := by omega
  clear hsz'
  go_wp2_with fail
  refine (l30Text_any _ _ _ hr (by omega)).mono ?_
  rintro e w2 ⟨tv, t, rfl, ht8, hT, hd, hr⟩
  have hs2 := hd.size
  have ht := hT.rd
  go_wp2_with fail
  refine (l30Patch_any _ _ _ t _ hr (by omega) ht (fun b hb => by omega) (by omega)).mono ?_
  rintro e w3 ⟨u1, a, rfl, ha, hd3, hr3⟩
  have hd4 := hd.tr hd3
  have hs3 := hd3.size
  go_wp2_with fail
  refine (specPatchPut _ a _ ha).mono ?_
  rintro e w4 ⟨rfl, hb4⟩
  have hpz := patchPut_size a
  obtain ⟨s, hsq⟩ : ∃ s, s = patchPut a := ⟨_, rfl⟩
  rw [← hsq] at hpz ⊢
  have hr4 := hr3.below hr3.lt hb4
  have hd5 := hd4.below hb4
  have hs4 := hb4.size
  clear hsq ha hr3 hd3 hd4
  go_wp2_with fail
  refine (pick_any _ _ _ _ hr4 (by omega) (by omega)).mono ?_
  rintro e w5 ⟨q, rfl, _, hd6, hr6⟩
  have hd7 := hd5.tr hd6
  have hs5 := hd6.size
  by_cases hq : q = 0
  · subst hq
    go_wp2
    go_ret
    exact ⟨s, rfl, by omega, hb.trans (hd7.low (Nat.le_refl _) (by omega))⟩
  · have hq' := nat_eq_f hq
    go_wp2_with fail
    refine (l30Bent_any _ _ s _ hr6 (by omega) (by omega)).mono ?_
    rintro e w6 ⟨t2, rfl, htz, hd8, hr8⟩
    have hd9 := hd7.tr hd8
    go_wp2
    go_ret
    exact ⟨t2, rfl, by omega, hb.trans (hd9.low (Nat.le_refl _) (by omega))⟩
end Go.Proofs.YthhmaclhggmneaaDoor
