/-
  Walks: a text and pieces drawn.
-/
import Derived.Test.YtjfhbepnomnalaaDraw5
import Derived.Test.YtjfhbepnomnalaaSetL
import Derived.Test.YtjfhbepnomnalaaL2
namespace Go.Proofs.Ytjfhbepnomnalaa
open Go.RowKit Go.Vc
open Go.Vc.Rep (rd)
open Go.Vc.Own (own)

theorem fresh_int (B m : Nat) (w : World) (s : Int) (h : I64 s) : Fresh B m w [.int .i64 s] s := Fresh.leaf ⟨rfl, rfl, h⟩
/-- pieces, not too many nor too long -/
def FewD (ds : List Delta) : Prop := ds.length ≤ 10 ∧ ∀ d, d ∈ ds → d.lines.length ≤ 11
theorem few_dOf (xs ys : List ByteArray) : FewD (dOf xs ys) := by
  unfold dOf
  split
  · split
    · rename_i h1 h2
      obtain ⟨h3, h4⟩ := deltaOf_small (base := xs) (text_len h2)
      exact ⟨h3, fun d hd => by have := h4 d hd; omega⟩
    · exact ⟨by simp, fun _ h => by cases h⟩
  · exact ⟨by simp, fun _ h => by cases h⟩
theorem FewD.at {ds : List Delta} (h : FewD ds) {k : Nat} (hk : k < ds.length) : ds[k].lines.length ≤ 11 := h.2 _ (List.getElem_mem hk)
theorem FewD.set {ds : List Delta} (h : FewD ds) (k : Nat) (d : Delta) (hd : d.lines.length ≤ 11) : FewD (ds.set k d) :=
  ⟨by simpa using h.1, fun x hx => by
    rcases List.mem_or_eq_of_mem_set hx with hx | rfl
    · exact h.2 x hx
    · exact hd⟩

theorem z_src (w : World) : IsSlice (fun b => b = w.heap.size) (w.alloc (.cells #[.string ⟨#[122]⟩] (Tid.tid ByteArray))) (some ⟨w.heap.size, 0, none⟩) 1 ([⟨#[122]⟩] : List ByteArray) :=
  lit_strs ([⟨#[122]⟩] : List ByteArray) (heap_alloc_new w (.cells #[.string ⟨#[122]⟩] (Tid.tid ByteArray))) (by decide) (by decide)
set_option maxHeartbeats 4000000 in
set_option maxRecDepth 100000 in
theorem l30Delta_any {S : Nat → Prop} (rb N : Nat) (v : Value) (xs : List ByteArray) (w : World) (h : RdOk w rb N) (hN : N ≤ 900000) (hv : rd S w [v] xs) (hS : ∀ b, S b → b ≠ rb) (hx : xs.length ≤ 18) :
    Calls Try.prog 71 #[.pointer (some ⟨rb, 0, none⟩), v] w fun e w' => ∃ (v : Value) (ds : List Delta), e = .returned v ∧ ds.length ≤ 10 ∧ Fresh w.heap.size w'.heap.size w' [v] ds ∧ Drew rb w w' ∧ RdOk w' rb (N + 40) := by
  have hlt := h.lt
  go_enter Try.func71, Try.ntmps71
  go_wp2_with fail
  refine (l30Turn_any rb N v xs w h (by omega) hv hx).mono ?_
  rintro e w1 ⟨u, ys, rfl, hyl, hF, hd, hr⟩
  have hv1 := hd.rdS hv hS
  go_wp2_with fail
  refine (specDeltaOf v xs u ys w1 hv1 hF.rd).mono ?_
  rintro e w2 ⟨dv, rfl, hD, hb2⟩
  have hsz := hd.size
  have hfew := few_dOf xs ys
  have hD2 := hD.mono hsz (Nat.le_refl _)
  have hr2 := hr.below (by omega) hb2
  have hd2 := hd.below hb2
  generalize dOf xs ys = ds at hD2 hfew
  clear hD hF hv1 hr hd hb2
  have hsz2 := hd2.size
  obtain ⟨a2, c2, rfl, _⟩ := hD2.shape
  by_cases h0 : 0 < ds.length
  · go_wp2_with fail
    refine (pick_any rb _ _ _ hr2 (by omega) (by have := hfew.1; omega)).mono ?_
    rintro e w3 ⟨k, rfl, hk, hd3, hr3⟩
    have hk' : k < ds.length := by omega
    go_wp2_with fail
    refine (pick_any rb _ _ _ hr3 (by omega) (by omega)).mono ?_
    rintro e w4 ⟨q, rfl, hq, hd4, hr4⟩
    have hD4 := (hd4.fresh (hd3.fresh hD2 (.inl hlt)).now (.inl hlt)).now
    have hd5 := (hd2.tr hd3).tr hd4
    have hsz5 := hd5.size
    have hl10 := hfew.1
    clear hk hq hD2 hr2 hr3 hd3 hd4 hd2
    obtain ⟨wo, rfl⟩ : ∃ wo : World, wo = w4 := ⟨_, rfl⟩
    obtain ⟨g2, rfl, hg2, hg3⟩ := hD4.addr h0
    by_cases hq0 : q = 0
    · subst hq0
      go_wp2_with fail
      refine (one_any (S := fun b => b = wo.heap.size) rb _ _ [-1, 9, 0] _ (hr4.alloc _) (by omega)
        (lit_ints _ (heap_new_at (by simp)) (by intro s hs; simp at hs; unfold I64; omega) (by decide)).rd (by intro b hb; omega) (by decide) (by decide)).mono ?_
      rintro e w6 ⟨s, rfl, hs, hd6, hr6⟩
      have hsi : I64 s := by simp at hs; unfold I64; omega
      have hD6 := (hd6.fresh (hD4.alloc _) (.inl hlt)).now
      have hd7 := (hd5.belowB ((Below.refl _ _).alloc (Nat.le_refl _) _) hsz5).tr hd6
      obtain ⟨⟨u', hu⟩, hfz, _, hF7⟩ := hD6.setL lens_delta_many hd7.size hk' (Below.refl _ _) (fresh_int _ w6.heap.size _ s hsi)
      have hu' : w6.cell? ⟨g2, k * 3 + 1, none⟩ = some u' := hu
      have hfz' : w6.frozen? ⟨g2, k * 3 + 1, none⟩ = false := hfz
      clear hu hfz
      go_wp2
      go_ret
      exact ⟨_, _, rfl, by simpa using hl10, hF7, hd7.belowB ((Below.refl _ _).setCell hg2 _) (Nat.le_refl _), (hr6.below (B := w.heap.size) hlt ((Below.refl _ _).setCell hg2 _)).mono (by omega)⟩
    · have hq0' := nat_eq_f hq0
      by_cases hq1 : q = 1
      · subst hq1
        go_wp2_with fail
        refine (one_any (S := fun b => b = wo.heap.size) rb _ _ [-1, 10, 1] _ (hr4.alloc _) (by omega)
          (lit_ints _ (heap_new_at (by simp)) (by intro s hs; simp at hs; unfold I64; omega) (by decide)).rd (by intro b hb; omega) (by decide) (by decide)).mono ?_
        rintro e w6 ⟨s, rfl, hs, hd6, hr6⟩
        have hsi : I64 s := by simp at hs; unfold I64; omega
        have hD6 := (hd6.fresh (hD4.alloc _) (.inl hlt)).now
        have hd7 := (hd5.belowB ((Below.refl _ _).alloc (Nat.le_refl _) _) hsz5).tr hd6
        obtain ⟨⟨u', hu⟩, hfz, _, hF7⟩ := hD6.setL lens_delta_fr hd7.size hk' (Below.refl _ _) (fresh_int _ w6.heap.size _ s hsi)
        have hu' : w6.cell? ⟨g2, k * 3, none⟩ = some u' := hu
        have hfz' : w6.frozen? ⟨g2, k * 3, none⟩ = false := hfz
        clear hu hfz
        go_wp2
        go_ret
        exact ⟨_, _, rfl, by simpa using hl10, hF7, hd7.belowB ((Below.refl _ _).setCell hg2 _) (Nat.le_refl _), (hr6.below (B := w.heap.size) hlt ((Below.refl _ _).setCell hg2 _)).mono (by omega)⟩
      · have hq1' := nat_eq_f hq1
        by_cases hq2 : q = 2
        · subst hq2
          obtain ⟨g, off, bl, nl, he, hc0, hc1, hc2, _, _, hl⟩ := ((rd_slice_of hD4.rd2).2).delta hk'
          obtain ⟨rfl, rfl⟩ : g2 = g ∧ 0 = off := by simpa using he
          have hcl : wo.cell? ⟨g2, k * 3 + 2, none⟩ = some (.slice bl ds[k].lines.length nl) := by rw [Nat.zero_add] at hc2; exact hc2
          have hll := hfew.at hk'
          have hfw : wo.frozen? ⟨g2, k * 3 + 2, none⟩ = false := by
            obtain ⟨_, hf, _⟩ := hD4.there hk' (j := 2) (by decide)
            exact hf
          go_wp2_with (first
            | (at_builtin; (refine wpList_app_leaf slz_string.slt rfl (.tmp 43) (.tmp 48) rfl rfl (Fresh.empty (by decide) wo.heap.size wo (Nat.le_refl _)) (le_alloc (Nat.le_refl _) _) rfl rfl (hl.alloc _) (by simp <;> omega) (by unfold maxLen; simp <;> omega) ?_); intro a5 c5 w5 hG5; have hF5 := (show Fresh wo.heap.size w5.heap.size w5 [.slice a5 ds[k].lines.length c5] ds[k].lines from (by have := hG5.fresh; simpa only [List.length_nil, Nat.zero_add, List.nil_append] using this)); have hb5 := ((Below.refl _ wo).alloc (Nat.le_refl _) (.cells #[] (Tid.tid ByteArray))).trans hG5.below; have hsz6 := hb5.size; have hsrc := z_src w5)
            | (at_builtin; go_must (refine wpList_app_leaf slz_string.slt rfl (.tmp 49) (.tmp 50) rfl rfl (hF5.alloc _) (le_alloc hsz6 _) rfl rfl hsrc (by simp <;> omega) (by unfold maxLen; simp <;> omega) ?_); intro a6 c6 w6 hG6; have hF6 := (show Fresh wo.heap.size w6.heap.size w6 [.slice a6 (ds[k].lines.length + 1) c6] (ds[k].lines ++ [⟨#[122]⟩]) from hG6.fresh); have hb6 := (hb5.alloc hsz6 (.cells #[.string ⟨#[122]⟩] (Tid.tid ByteArray))).trans hG6.below; obtain ⟨⟨u', hu⟩, hfz, _, hF7⟩ := hD4.setL lens_delta hsz5 hk' hb6 hF6; have hu' : w6.cell? ⟨g2, k * 3 + 2, none⟩ = some u' := hu; have hfz' : w6.frozen? ⟨g2, k * 3 + 2, none⟩ = false := hfz; clear hu hfz))
          go_ret
          exact ⟨_, _, rfl, by simpa using hl10, hF7, (hd5.belowB hb6 hsz5).belowB ((Below.refl _ _).setCell hg2 _) (Nat.le_refl _), ((hr4.below (B := wo.heap.size) (by omega) hb6).below (B := w.heap.size) hlt ((Below.refl _ _).setCell hg2 _)).mono (by omega)⟩
        · have hq2' := nat_eq_f hq2
          go_wp2
          go_ret
          exact ⟨_, ds, rfl, hl10, hD4, hd5, hr4.mono (by omega)⟩
  · go_wp2
    go_ret
    exact ⟨_, ds, rfl, by omega, hD2.now, hd2, hr2.mono (by omega)⟩
end Go.Proofs.Ytjfhbepnomnalaa
