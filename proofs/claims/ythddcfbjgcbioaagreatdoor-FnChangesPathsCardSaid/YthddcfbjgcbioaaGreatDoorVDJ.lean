/-
  Walks: a text turned. / Walks: a tree turned, two trees drawn. / Walks: three trees drawn.
-/
import Derived.Test.YthddcfbjgcbioaaGreatDoorVDR
import Derived.Test.YthddcfbjgcbioaaGreatDoorVB
import Derived.Test.YthddcfbjgcbioaaGreatDoorVDT
import Derived.Test.YthddcfbjgcbioaaGreatDoorVTD
import Derived.Test.YthddcfbjgcbioaaGreatDoorVGR
set_option linter.unusedVariables false
namespace Go.Proofs.YthddcfbjgcbioaaGreatDoor
open Go.RowKit Go.Vc
open Go.Vc.Rep (rd)
open Go.Vc.Own (own)

set_option maxHeartbeats 4000000 in
set_option maxRecDepth 100000 in
theorem l30Turn_any {S : Nat → Prop} (rb N : Nat) (v : Value) (xs : List ByteArray) (w : World) (h : RdOk w rb N) (hN : N ≤ 990000) (hv : rd S w [v] xs) (hx : xs.length ≤ 18) :
    Calls Tryz.prog 44 #[.pointer (some ⟨rb, 0, none⟩), v] w fun e w' => ∃ (v : Value) (xs : List ByteArray), e = .returned v ∧ xs.length ≤ 18 ∧ Fresh w.heap.size w'.heap.size w' [v] xs ∧ Drew rb w w' ∧ RdOk w' rb (N + 30) := by
  have hlt := h.lt
  obtain ⟨a, cap, rfl, hs⟩ := rd_slice_elim hv
  go_enter Tryz.func44, Tryz.ntmps44
  go_wp2_with (at_builtin; go_must (refine wpList_app_leaf slz_string.slt rfl (.tmp 9) (.tmp 10) rfl rfl (Fresh.empty (by decide) w.heap.size w (Nat.le_refl _)) (le_alloc (Nat.le_refl _) _) rfl rfl (hs.alloc _) (by simp <;> omega) (by unfold maxLen; simp <;> omega) ?_); intro a1 c1 w1 hG1)
  have hb1 := ((Below.refl _ w).alloc (Nat.le_refl _) _).trans hG1.below
  refine (pick_any rb N _ _ (h.below hlt hb1) (by omega) (by omega)).mono ?_
  rintro e w2 ⟨k, rfl, hk, hd2, hr2⟩
  have hk3 : k ≤ 3 := by omega
  have hd3 := (Drew.of (rb := rb) hb1).tr hd2
  have hF2 := (hd2.fresh hG1.fresh (.inl hlt)).now
  have hxl : ([] ++ xs).length ≤ 18 := by simpa using hx
  clear hk hG1 hb1 hs
  go_wp2
  go_loopw [5, 6] (fun out n wr => (∃ (ys : List ByteArray) (k : Nat), n = .int .i64 k ∧ k ≤ 3 ∧ ys.length ≤ 18 ∧ Fresh w.heap.size wr.heap.size wr [out] ys ∧ RdOk wr rb (N + 1 + 3 * (3 - k))) ∧ Drew rb w wr) (fun _ n _ => (intOf n).toNat)
  case atStart => exact ⟨⟨[] ++ xs, k, rfl, hk3, hxl, by simpa using hF2, hr2.mono (by omega)⟩, hd3⟩
  case round =>
    clear hd2 hr2 hd3 hF2 hxl hk3
    obtain ⟨⟨ys, k, rfl, hk, hyl, hF, hr⟩, hd⟩ := hrel
    obtain ⟨a2, c2, rfl, _⟩ := hF.shape
    have hsz := hd.size
    by_cases hk0 : 0 < k
    · go_wp2_with fail
      refine (pick_any rb _ _ _ hr (by omega) (by omega)).mono ?_
      rintro e w3 ⟨p, rfl, hp, hd3, hr3⟩
      have hp' : p ≤ ys.length := by omega
      go_wp2_with fail
      refine (pick_any rb _ _ _ hr3 (by omega) (by omega)).mono ?_
      rintro e w4 ⟨q, rfl, hq, hd4, hr4⟩
      have hF4 := (hd4.fresh (hd3.fresh hF (.inl hlt)).now (.inl hlt)).now
      have hd5 := (hd.tr hd3).tr hd4
      have hsz5 := hd5.size
      have hs4 := (rd_slice_of hF4.rd2).2
      clear hp hq hF hr hr3 hd3 hd4
      obtain ⟨wo, rfl⟩ : ∃ wo : World, wo = w4 := ⟨_, rfl⟩
      by_cases hq0 : q = 0
      · subst hq0
        by_cases h10 : ys.length < 10
        · have hct := run_cut0 slz_string.slt a2 ys.length c2 p (by have := hs4.1; omega)
          have hct2 := run_cut slz_string.slt a2 ys.length c2 p hp'
          have hpl : (ys.take p).length = p := by simp; omega
          go_wp2_with (at_builtin; go_must (refine wpList_app_leaf slz_string.slt rfl (.tmp 39) (.tmp 42) rfl rfl (Fresh.empty (by decide) wo.heap.size wo (Nat.le_refl _)) (le_alloc (Nat.le_refl _) _) rfl hpl.symm ((hs4.take p).alloc _) (by simp <;> omega) (by unfold maxLen; simp <;> omega) ?_); intro a5 c5 w5 hG5)
          have hF5 : Fresh wo.heap.size w5.heap.size w5 [.slice a5 p c5] (ys.take p) := by
            have := hG5.fresh
            simpa only [List.length_nil, Nat.zero_add, hpl, List.nil_append] using this
          have hb5 := ((Below.refl _ wo).alloc (Nat.le_refl _) _).trans hG5.below
          have hr5 := hr4.below (by omega) hb5
          have hs5 := hs4.frame (S' := fun b => w.heap.size ≤ b ∧ b < wo.heap.size) (w' := w5) (fun b hb _ => ⟨hb5.block b hb.2, hb⟩)
          have hd6 := hd5.belowB hb5 hsz5
          have hsz6 := hb5.size
          clear hG5 hs4 hF4 hr4
          refine (l30Line_any rb _ _ hr5 (by omega)).mono ?_
          rintro e w6 ⟨s, rfl, hss, hd7, hr7⟩
          have hF7 := (hd7.fresh hF5 (.inl (by omega))).now
          have hs7 := hd7.slice hs5 (by intro b hb; omega)
          have hd8 := hd6.tr hd7
          have hsz7 := hd7.size
          have hsrc : IsSlice (fun b => b = w6.heap.size) (w6.alloc (.cells #[.string s] (Tid.tid ByteArray))) (some ⟨w6.heap.size, 0, none⟩) 1 [s] := lit_strs [s] (heap_alloc_new _ _) (by simpa using hss) (by unfold maxLen; simp)
          have hdl : (ys.drop p).length = ys.length - p := by simp
          go_wp2_with (first
            | (at_builtin; (with_reducible refine wpList_app_leaf slz_string.slt rfl (.tmp 44) (.tmp 47) rfl rfl (hF7.alloc _) (le_alloc (by omega) _) rfl rfl hsrc (by simp <;> omega) (by unfold maxLen; simp <;> omega) ?_); intro a8 c8 w8 hG8; have hs8 := (hs7.alloc _).frame (S' := fun b => w.heap.size ≤ b ∧ b < wo.heap.size) (w' := w8) (fun b hb _ => ⟨hG8.below.block b hb.2, hb⟩); have hF8 := (show Fresh wo.heap.size w8.heap.size w8 [.slice a8 (p + 1) c8] (ys.take p ++ [s]) from (by have := hG8.fresh; rw [hpl] at this; exact this)); have hb8 := hG8.below; have hsz8 := hG8.below.size)
            | (at_builtin; go_must (refine wpList_app_leaf slz_string.slt rfl (.tmp 49) (.tmp 52) rfl rfl hF8 (by simp at hsz8; omega) rfl hdl.symm (hs8.cut hp') (by simp <;> omega) (by unfold maxLen; simp <;> omega) ?_); intro a9 c9 w9 hG9))
          have hF9 : Fresh wo.heap.size w9.heap.size w9 [.slice a9 (p + 1 + (ys.length - p)) c9] (ys.take p ++ [s] ++ ys.drop p) := by
            have := hG9.fresh
            simpa only [List.length_append, hpl, hdl, List.length_singleton] using this
          have hb9 := (((Below.refl _ w6).alloc (B := wo.heap.size) (by omega) _).trans hb8).trans hG9.below
          go_roundw
          case rel => exact ⟨⟨_, k - 1, by go_num, by omega, by simp; omega, hF9.mono hsz5 (Nat.le_refl _), (hr7.below (B := wo.heap.size) (by omega) hb9).mono (by omega)⟩, hd8.belowB hb9 hsz5⟩
          case measure => simp [intOf]; omega
        · go_wp2
          go_roundw
          case rel => exact ⟨⟨ys, k - 1, by go_num, by omega, hyl, hF4, hr4.mono (by omega)⟩, hd5⟩
          case measure => simp [intOf]; omega
      · have hq0' := nat_eq_f hq0
        by_cases hq1 : q = 1
        · subst hq1
          by_cases hpl : p < ys.length
          · have hct := run_cut0 slz_string.slt a2 ys.length c2 p (by have := hs4.1; omega)
            have hct2 : ∀ w, (Instr.slice 29 (.slice a2 ys.length c2) (some (.int .i64 ((p : Int) + 1))) none none).run Tryz.prog w = .ok (.slice (cutA a2 c2 (p + 1) (Rep.sz ByteArray)) (ys.length - (p + 1)) (c2 - (p + 1))) w := fun w => run_cut slz_string.slt a2 ys.length c2 (p + 1) hpl w
            have htl : (ys.take p).length = p := by simp; omega
            have hdl : (ys.drop (p + 1)).length = ys.length - (p + 1) := by simp
            have e1 : IntKind.i64.wrap ((p : Int) + 1) = ((p + 1 : Nat) : Int) := IntWalk.i64_in _ (by omega)
            go_wp2_with fail
            go_region_law (first
              | (refine step_app_leaf slz_string.slt rfl (.tmp 60) (.tmp 63) rfl rfl (by exact (Fresh.empty (by decide) wo.heap.size wo (Nat.le_refl _)).drew) (by simp <;> omega) rfl htl.symm (by exact ((hs4.take p).alloc _).drew) (by simp <;> omega) (by unfold maxLen; simp <;> omega) ?_; intro a5 c5 w5 hG5; have hF5 := (show Fresh wo.heap.size w5.heap.size w5 [.slice a5 p c5] (ys.take p) from (by have := hG5.fresh; simpa only [List.length_nil, Nat.zero_add, htl, List.nil_append] using this)); have hb5 := ((Below.refl _ wo).alloc (Nat.le_refl _) (.cells #[] (Tid.tid ByteArray))).drew.trans hG5.below; have hs5 := hs4.frame (S' := fun b => w.heap.size ≤ b ∧ b < wo.heap.size) (w' := w5) (fun b hb _ => ⟨hb5.block b hb.2, hb⟩); have hsz6 := hb5.size)
              | (refine step_app_leaf slz_string.slt rfl (.tmp 64) (.tmp 68) rfl rfl hF5 hsz6 rfl hdl.symm (by exact hs5.cut (k := p + 1) (by omega)) (by simp <;> omega) (by unfold maxLen; simp <;> omega) ?_; intro a9 c9 w9 hG9))
            all_goals
              go_wp2
              have hF9 : Fresh wo.heap.size w9.heap.size w9 [.slice a9 (p + (ys.length - (p + 1))) c9] (ys.take p ++ ys.drop (p + 1)) := by
                have := hG9.fresh
                simpa only [List.length_append, htl, hdl] using this
              have hb9 := hb5.trans hG9.below
              go_roundw
              case rel => exact ⟨⟨_, k - 1, by go_num, by omega, by simp; omega, hF9.mono hsz5 (Nat.le_refl _), (hr4.below (B := wo.heap.size) (by omega) hb9).mono (by omega)⟩, hd5.belowB hb9 hsz5⟩
              case measure => simp [intOf]; omega
          · go_wp2
            go_roundw
            case rel => exact ⟨⟨ys, k - 1, by go_num, by omega, hyl, hF4, hr4.mono (by omega)⟩, hd5⟩
            case measure => simp [intOf]; omega
        · have hq1' := nat_eq_f hq1
          by_cases hpl : p < ys.length
          · go_wp2_with fail
            refine (l30Line_any rb _ _ hr4 (by omega)).mono ?_
            rintro e w6 ⟨s, rfl, hss, hd7, hr7⟩
            have hF7 := (hd7.fresh hF4 (.inl hlt)).now
            have hd8 := hd5.tr hd7
            have hsz7 := hd7.size
            obtain ⟨g2, rfl, hg2, hg3⟩ := hF7.addr (by omega)
            obtain ⟨⟨u, hu⟩, hfz, _, _⟩ := hF7.there1 rfl (i := p) hpl
            go_wp2
            go_roundw
            case rel => exact ⟨⟨ys.set p s, k - 1, by go_num, by omega, by simpa using hyl, by simpa using hF7.set1 rfl hpl (Fresh.leaf (m := w6.heap.size) ⟨rfl, rfl, hss⟩) (by omega), (hr7.below (B := w.heap.size) hlt ((Below.refl _ _).setCell hg2 _)).mono (by omega)⟩, hd8.belowB ((Below.refl _ _).setCell hg2 _) (Nat.le_refl _)⟩
            case measure => simp [intOf]; omega
          · go_wp2
            go_roundw
            case rel => exact ⟨⟨ys, k - 1, by go_num, by omega, hyl, hF4, hr4.mono (by omega)⟩, hd5⟩
            case measure => simp [intOf]; omega
    · go_wp2
      go_ret
      exact ⟨_, ys, rfl, hyl, hF, hd, hr.mono (by omega)⟩
end Go.Proofs.YthddcfbjgcbioaaGreatDoor
namespace Go.Vc
open Go.RowKit
/-- files by short paths, of short texts, few -/
def Sm (n : Nat) (xs : List File) : Prop := xs.length ≤ 9 ∧ ∀ f, f ∈ xs → f.path.size ≤ n ∧ f.text.length ≤ 18
theorem Sm.mono {n m : Nat} {xs : List File} (h : Sm n xs) (hm : n ≤ m) : Sm m xs := ⟨h.1, fun f hf => ⟨Nat.le_trans (h.2 f hf).1 hm, (h.2 f hf).2⟩⟩
theorem sm_nil (n : Nat) : Sm n [] := ⟨by simp, fun f hf => by cases hf⟩
theorem sm_ok {n : Nat} {xs : List File} (h : treeB xs = true) (hp : ∀ f, f ∈ xs → f.path.size ≤ n) : Sm n xs := by
  obtain ⟨h8, h10⟩ := tree_files h
  exact ⟨by omega, fun f hf => ⟨hp f hf, by have := h10 f hf; omega⟩⟩
theorem sm_drop {n : Nat} {t : List File} (h : Sm n t) (p : ByteArray) : Sm n (treeDrop t p) := by
  unfold treeDrop
  split
  · exact ⟨Nat.le_trans (List.length_filter_le _ _) h.1, fun f hf => h.2 f (List.mem_filter.1 hf).1⟩
  · exact sm_nil n
theorem sm_set {n : Nat} {t : List File} {p : ByteArray} {tx : List ByteArray} (h : Sm n t) (hp : p.size ≤ n) : Sm n (treeSet t ⟨p, tx⟩) := by
  unfold treeSet
  split
  · split
    · rename_i h2
      refine sm_ok h2 fun f hf => ?_
      rcases setG_mem hf with rfl | hf
      · exact hp
      · exact (h.2 f hf).1
    · exact h
  · exact sm_nil n
theorem movG_mem {path dst : ByteArray} {g : File} : ∀ {r b : List File}, g ∈ movG path dst b r → g ∈ b ∨ ∃ f, f ∈ r ∧ isAtB path f.path = true ∧ g = mvF path dst f
  | [], b, h => .inl h
  | f :: r, b, h => by
    rw [movG] at h
    rcases movG_mem h with h | ⟨f', h1, h2, h3⟩
    · split at h
      · rename_i hp
        rcases setG_mem h with rfl | h
        · exact .inr ⟨f, List.mem_cons_self .., hp, rfl⟩
        · exact .inl h
      · exact .inl h
    · exact .inr ⟨f', List.mem_cons_of_mem _ h1, h2, h3⟩
theorem sm_move {n : Nat} {t : List File} {p dst : ByteArray} (h : Sm n t) (hd : dst.size ≤ 100) : Sm (n + 100) (treeMove t p dst) := by
  unfold treeMove
  split
  · split
    · rename_i h2
      have h3 : treeB (movedT t p dst) = true := by
        unfold moveB at h2
        simp only [Bool.and_eq_true] at h2
        exact h2.2.2.2.1
      refine sm_ok h3 fun g hg => ?_
      rcases movG_mem hg with hg | ⟨f, hf, hp, rfl⟩
      · have := (h.2 g (List.mem_filter.1 hg).1).1; omega
      · have h4 := isAt_size hp
        have h5 := (h.2 f hf).1
        show (mvP p dst f.path).size ≤ _
        rw [mvP_size h4]
        omega
    · exact h.mono (by omega)
  · exact sm_nil _
theorem getT_len : ∀ {t : List File}, (∀ f, f ∈ t → f.text.length ≤ 18) → ∀ p, ((getT t p).getD []).length ≤ 18
  | [], _, p => by simp [getT]
  | g :: r, h, p => by
    rw [getT]
    split
    · exact h g (List.mem_cons_self ..)
    · exact getT_len (fun f hf => h f (List.mem_cons_of_mem _ hf)) p
theorem getT_len18 {n : Nat} {t : List File} (h : Sm n t) (p : ByteArray) : ((getT t p).getD []).length ≤ 18 := getT_len (fun f hf => (h.2 f hf).2) p
end Go.Vc
namespace Go.Proofs.YthddcfbjgcbioaaGreatDoor
open Go.RowKit Go.Vc
open Go.Vc.Rep (rd)
open Go.Vc.Own (own)
set_option maxHeartbeats 8000000 in
set_option maxRecDepth 100000 in
theorem l4Copy_wide {S : Nat → Prop} (v : Value) (t : List File) (w : World) (hv : rd S w [v] t) (hl : t.length ≤ 1000) (hx : ∀ f, f ∈ t → f.text.length ≤ 100) :
    Calls Tryz.prog 17 #[v] w fun e w' => ∃ v', e = .returned v' ∧ Fresh w.heap.size w'.heap.size w' [v'] t ∧ Below w.heap.size w w' := by
  obtain ⟨a, cap, rfl, hs⟩ := rd_slice_elim (Rep.lt hv)
  have hle := hs.le
  have hE := Fresh.empty (β := File) (by decide) w.heap.size w (Nat.le_refl _)
  go_enter Tryz.func17, Tryz.ntmps17
  go_wp2
  go_loopw [3, 4] (fun out i wr => (∃ (k : Nat) (ol : List File), k ≤ t.length ∧ i = .int .i64 k ∧ ol.length ≤ k ∧ Fresh w.heap.size wr.heap.size wr [out] ol ∧ Hid (t = ol ++ (t.drop k).map id)) ∧ Below w.heap.size w wr) (fun _ i _ => t.length - (intOf i).toNat)
  case atStart => exact ⟨⟨0, [], by omega, rfl, by simp, hE.now, by show _ = _; simp⟩, (Below.refl _ _).alloc (Nat.le_refl _) _⟩
  case round =>
    clear hE
    obtain ⟨⟨k, ol, hk, rfl, hol, hF, HA⟩, hb⟩ := hrel
    obtain ⟨a2, c2, hv2, _⟩ := hF.shape
    subst hv2
    have hsz := hb.size
    by_cases hlt : k < t.length
    · have HN := Lib.hid (map_next HA.out hlt)
      obtain ⟨g, off, a1, c1, hag, hc1, hc2, hz1, hft⟩ := hs.file hlt
      subst hag
      have hgw := World.block_lt_of_cell? w _ hc1
      have hc1 := keepc hc1 hb
      have hc2 := keepc hc2 hb
      have hft := hft.keep hb
      have hx10 := hx t[k] (List.getElem_mem hlt)
      obtain ⟨f, hf⟩ : ∃ f, f = t[k] := ⟨_, rfl⟩
      rw [← hf] at hc1 hc2 hz1 hft hx10
      have HN : Hid (t = (ol ++ [f]) ++ (t.drop (k + 1)).map id) := by rw [hf]; exact HN
      have hEm := Fresh.empty (β := ByteArray) Nat.one_pos wr.drew.heap.size wr.drew (Nat.le_refl _)
      clear hf
      go_wp2_with fail
      go_region_held3 (fun w' => w'.cell? ⟨g, off + k * 2, none⟩ = some (.string f.path) ∧ w'.cell? ⟨g, off + k * 2 + 1, none⟩ = some (.slice a1 f.text.length c1))
        (first | go_keep | exact K9 | exact K5 | exact ⟨hc1, hc2⟩)
        (first
          | (refine step_app_leaf slz_string.slt rfl (.tmp 18) (.tmp 23) rfl rfl (xs := ([] : List ByteArray)) hEm (by simp) rfl rfl (hft.drew.alloc _) (by simp; omega) (by unfold maxLen; simp; omega) ?_; intro a5 c5 w5 hG5; have hF5 := hG5.fresh; have hs5 := hG5.below.size; have hb5 : Below wr.heap.size wr w5 := ((Below.refl wr.heap.size wr).drew.alloc (by simp) _).trans (hG5.below.mono (by simp)); have K5 := And.intro (keepc hc1 hb5) (keepc hc2 hb5); rw [List.nil_append, List.length_nil, Nat.zero_add] at hF5)
          | (refine step_app_one (m0 := wr.heap.size) slz_file.slt rfl (.tmp 12) (.tmp 26) rfl rfl ((hF.belowm (Nat.le_refl _) hb5).alloc _) (by have := hb5.size; simp at *; omega) rfl (heap_alloc_new _ _) (Fresh.file (p := f) hz1 ((hF5.alloc _).mono (by simp) (Nat.le_refl _))) hsz (by omega) (by unfold maxLen; omega) ?_; intro a9 c9 w9 hG9; have hb59 := (hb.trans (hb5.mono hsz)).alloc (by have := hb5.size; omega) (.cells #[.string f.path, .slice a5 f.text.length c5] (Tid.tid File)); have K9 := And.intro ((hG9.below.cell (p := ⟨g, off + k * 2, none⟩) hgw).trans (keepc K5.1 ((Below.refl _ _).alloc (Nat.le_refl _) _))) ((hG9.below.cell (p := ⟨g, off + k * 2 + 1, none⟩) hgw).trans (keepc K5.2 ((Below.refl _ _).alloc (Nat.le_refl _) _)))))
      all_goals
        have hF9 := hG9.fresh
        have hb9 : Below w.heap.size w w9 := hb59.trans hG9.below
        clear K9 K5
        go_wp2
        go_roundw
        case rel => exact ⟨⟨k + 1, ol ++ [f], by omega, by go_num, by simp; omega, by simpa using hF9, HN.out⟩, hb9⟩
        case measure => simp [intOf] <;> omega
    · have HN := Lib.hid (map_end HA.out hlt)
      go_wp2
      go_ret
      exact ⟨_, rfl, by rw [HN.out]; exact hF, hb⟩

set_option maxHeartbeats 4000000 in
set_option maxRecDepth 100000 in
theorem l4Get_in {S : Nat → Prop} (v : Value) (t : List File) (path : ByteArray) (w : World) (hv : rd S w [v] t) {M : Option (List ByteArray)} (hM : getT t path = M) :
    Calls Tryz.prog 40 #[v, .string path] w fun e w' => ∃ v', e = .returned (.tuple #[v', .bool M.isSome]) ∧ rd S w [v'] (M.getD []) ∧ w = w' := by
  obtain ⟨a, cap, rfl, hs⟩ := rd_slice_elim hv
  have hle := hs.le
  have HM := Lib.hid hM
  clear hM
  go_enter Tryz.func40, Tryz.ntmps40
  go_wp2
  go_loopw [6] (fun i wr => (∃ k : Nat, k ≤ t.length ∧ i = .int .i64 k ∧ Hid (getT t path = getT (t.drop k) path)) ∧ w = wr) (fun i _ => t.length - (intOf i).toNat)
  case atStart => exact ⟨⟨0, by omega, rfl, rfl⟩, rfl⟩
  case round =>
    obtain ⟨⟨k, hk, rfl, HA⟩, rfl⟩ := hrel
    by_cases hlt : k < t.length
    · obtain ⟨g, off, a1, c1, rfl, hc1, hc2, hz1, hft⟩ := hs.file hlt
      obtain ⟨f, hf⟩ : ∃ f, f = t[k] := ⟨_, rfl⟩
      rw [← hf] at hc1 hc2 hz1 hft
      have HF := Lib.hid hf
      clear hf
      by_cases he : f.path = path
      · have hd : decide (f.path = path) = true := decide_eq_true he
        have HN := Lib.hid (HM.out.symm.trans (getT_hit HA.out hlt (by rw [← HF.out]; exact he)))
        clear he
        go_wp2
        go_ret2
        exact ⟨_, by rw [HN.out]; rfl, by rw [HN.out, ← HF.out]; exact hft.rd, rfl⟩
      · have hd : decide (f.path = path) = false := decide_eq_false he
        have HN := Lib.hid (getT_next HA.out hlt (by rw [← HF.out]; exact he))
        clear he
        go_wp2
        go_roundw
        case rel => exact ⟨⟨k + 1, by omega, by go_num, HN.out⟩, trivial⟩
        case measure => simp [intOf] <;> omega
    · have HN := Lib.hid (HM.out.symm.trans (getT_end HA.out hlt))
      go_wp2
      go_ret2
      exact ⟨.slice none 0 0, by rw [HN.out]; rfl, by rw [HN.out]; exact rd_slice_nil _ _, rfl⟩


set_option maxHeartbeats 16000000 in
set_option maxRecDepth 100000 in
theorem l30TreeTurn_any (rb N : Nat) (v : Value) (t : List File) (w : World) (h : RdOk w rb N) (hN : N ≤ 500000) (hv : rd (fun b => rb < b) w [v] t) (hSt : Sm 100 t) :
    Calls Tryz.prog 18 #[.pointer (some ⟨rb, 0, none⟩), v] w fun e w' => ∃ (v : Value) (xs : List File), e = .returned v ∧ Sm 400 xs ∧ rd (fun b => rb < b) w' [v] xs ∧ Drew rb w w' ∧ RdOk w' rb (N + 130) := by
  have hlt := h.lt
  obtain ⟨a0, c0, hv0, _⟩ := rd_slice_elim hv
  subst hv0
  go_enter Tryz.func18, Tryz.ntmps18
  go_wp2_with fail
  refine (pick_any rb N _ _ h (by omega) (by omega)).mono ?_
  rintro e w1 ⟨k0, rfl, hk0, hd1, hr1⟩
  have hk3 : k0 ≤ 3 := by omega
  have hX1 := hd1.rdS hv (fun b hb => by omega)
  clear hk0 h hv
  go_wp2
  go_loopw [1, 5] (fun tv n wr => (∃ (cur : List File) (k : Nat), n = .int .i64 k ∧ k ≤ 3 ∧ Sm (100 + 100 * (3 - k)) cur ∧ rd (fun b => rb < b) wr [tv] cur ∧ RdOk wr rb (N + 1 + 40 * (3 - k))) ∧ Drew rb w wr) (fun _ n _ => (intOf n).toNat)
  case atStart => exact ⟨⟨t, k0, rfl, hk3, hSt.mono (by omega), hX1, hr1.mono (by omega)⟩, hd1⟩
  case round =>
    clear hd1 hr1 hX1 hk3 hSt
    obtain ⟨⟨cur, k, rfl, hk, hSm, hX, hr⟩, hd⟩ := hrel
    obtain ⟨a2, c2, hv2, _⟩ := rd_slice_elim hX
    subst hv2
    by_cases hk0 : 0 < k
    · go_wp2_with fail
      refine (l30Path_any rb _ _ hr (by omega)).mono ?_
      rintro e w3 ⟨s, rfl, hs100, hd3, hr3⟩
      have hX := hd3.rdS hX (fun b hb => by omega)
      have hd5 := hd.tr hd3
      clear hr hd hd3
      by_cases hpos : 0 < cur.length
      · have hpos' : decide (0 < cur.length) = true := decide_eq_true hpos
        go_wp2_with fail
        refine (pick_any rb _ _ _ hr3 (by omega) (by omega)).mono ?_
        rintro e w4 ⟨q, rfl, hq, hd4, hr⟩
        have hX := hd4.rdS hX (fun b hb => by omega)
        have hd5 := hd5.tr hd4
        clear hq hd4 hr3
        by_cases hq0 : 0 < q
        · have hq0' : decide (0 < q) = true := decide_eq_true hq0
          go_wp2_with fail
          refine (pick_any rb _ _ _ hr (by omega) (by have := hSm.1; omega)).mono ?_
          rintro e w5 ⟨j, rfl, hj, hd6, hr⟩
          have hX := hd6.rdS hX (fun b hb => by omega)
          have hd5 := hd5.tr hd6
          have hjl : j < cur.length := by omega
          obtain ⟨g, off, at_, ct, hag, hc1, _⟩ := (rd_slice_of hX).2.file hjl
          subst hag
          obtain ⟨p, hp⟩ : ∃ p, p = cur[j].path := ⟨_, rfl⟩
          have hp100 : p.size ≤ 100 + 100 * (3 - k) := by rw [hp]; exact (hSm.2 _ (List.getElem_mem hjl)).1
          rw [← hp] at hc1
          clear hj hd6 hp
          obtain ⟨old, hold⟩ : ∃ old, (getT cur p).getD [] = old := ⟨_, rfl⟩
          have ho18 : old.length ≤ 18 := by rw [← hold]; exact getT_len18 hSm p
          have GI := l4Get_in (S := fun b => rb < b) _ cur p _ hX rfl
          rw [hold] at GI
          clear hold
          go_wp2_with fail
          refine GI.mono ?_
          rintro e w6 ⟨ov, rfl, hO, rfl⟩
          obtain ⟨ao, co, hov, _⟩ := rd_slice_elim hO
          subst hov
          clear GI
          go_wp2_with fail
          refine (pick_any rb _ _ _ hr (by omega) (by omega)).mono ?_
          rintro e w7 ⟨q2, rfl, hq2, hd7, hr7⟩
          have hX7 := hd7.rdS hX (fun b hb => by omega)
          have hO7 := hd7.rdS hO (fun b hb => by omega)
          have hd8 := hd5.tr hd7
          have hq3 : q2 ≤ 3 := by omega
          clear hq2 hX hO hr hd7 hd5
          have hpz : p.size ≤ 1048576 := by omega
          have hpm : p.size ≤ maxLen := by unfold maxLen; omega
          by_cases h0 : q2 = 0
          · subst h0
            obtain ⟨x, hx⟩ : ∃ x, treeDrop cur p = x := ⟨_, rfl⟩
            have hSmx : Sm (100 + 100 * (3 - k)) x := by rw [← hx]; exact sm_drop hSm p
            go_wp2_with fail
            refine (specTreeDrop_in _ cur p _ hX7 hpm rfl hx).mono ?_
            rintro e w9 ⟨xv, rfl, hXx, hb9⟩
            obtain ⟨ax, cx, hxv, _⟩ := rd_slice_elim hXx
            subst hxv
            have hXx := Rep.mono (S' := fun b => rb < b) (fun b hb => Nat.lt_of_lt_of_le hr7.lt hb) hXx
            have hXc := Rep.below hX7 (Nat.le_refl _) hb9
            have hr := hr7.below hr7.lt hb9
            have hd9 := hd8.below hb9
            clear hx hO7 hb9 hX7 hr7
            cases hT : treeB x with
            | false =>
              go_wp2_with fail
              refine (l4Ok_is _ x _ hXx hT).mono ?_
              rintro e w10 ⟨rfl, hb10⟩
              have hXc := Rep.below hXc (Nat.le_refl _) hb10
              have hr := hr.below hr.lt hb10
              have hd9 := hd9.below hb10
              clear hT
              go_wp2
              go_roundw
              case rel => exact ⟨⟨cur, k - 1, by go_num, by omega, hSm.mono (by omega), hXc, hr.mono (by omega)⟩, hd9⟩
              case measure => simp [intOf] <;> omega
            | true =>
              go_wp2_with fail
              refine (l4Ok_is _ x _ hXx hT).mono ?_
              rintro e w10 ⟨rfl, hb10⟩
              have hXx := Rep.below hXx (Nat.le_refl _) hb10
              have hr := hr.below hr.lt hb10
              have hd9 := hd9.below hb10
              clear hT
              go_wp2
              go_roundw
              case rel => exact ⟨⟨x, k - 1, by go_num, by omega, hSmx.mono (by omega), hXx, hr.mono (by omega)⟩, hd9⟩
              case measure => simp [intOf] <;> omega
          · by_cases h1 : q2 = 1
            · subst h1
              go_wp2_with fail
              refine (l30Path_any rb _ _ hr7 (by omega)).mono ?_
              rintro e w8 ⟨dst, rfl, hds, hd9, hr8⟩
              have hX8 := hd9.rdS hX7 (fun b hb => by omega)
              have hd8 := hd8.tr hd9
              obtain ⟨x, hx⟩ : ∃ x, treeMove cur p dst = x := ⟨_, rfl⟩
              have hSmx : Sm (100 + 100 * (3 - k) + 100) x := by rw [← hx]; exact sm_move hSm hds
              go_wp2_with fail
              refine (specTreeMove _ cur p dst _ hX8 hpz (by omega) (fun f hf => by have := (hSm.2 f hf).1; omega) rfl hx).mono ?_
              rintro e w9 ⟨xv, rfl, hXx, hb9⟩
              obtain ⟨ax, cx, hxv, _⟩ := rd_slice_elim hXx
              subst hxv
              have hXx := Rep.mono (S' := fun b => rb < b) (fun b hb => Nat.lt_of_lt_of_le hr8.lt hb) hXx
              have hXc := Rep.below hX8 (Nat.le_refl _) hb9
              have hr := hr8.below hr8.lt hb9
              have hd9 := hd8.below hb9
              clear hx hO7 hb9 hX7 hr7 hX8 hr8
              cases hT : treeB x with
              | false =>
                go_wp2_with fail
                refine (l4Ok_is _ x _ hXx hT).mono ?_
                rintro e w10 ⟨rfl, hb10⟩
                have hXc := Rep.below hXc (Nat.le_refl _) hb10
                have hr := hr.below hr.lt hb10
                have hd9 := hd9.below hb10
                clear hT
                go_wp2
                go_roundw
                case rel => exact ⟨⟨cur, k - 1, by go_num, by omega, hSm.mono (by omega), hXc, hr.mono (by omega)⟩, hd9⟩
                case measure => simp [intOf] <;> omega
              | true =>
                go_wp2_with fail
                refine (l4Ok_is _ x _ hXx hT).mono ?_
                rintro e w10 ⟨rfl, hb10⟩
                have hXx := Rep.below hXx (Nat.le_refl _) hb10
                have hr := hr.below hr.lt hb10
                have hd9 := hd9.below hb10
                clear hT
                go_wp2
                go_roundw
                case rel => exact ⟨⟨x, k - 1, by go_num, by omega, hSmx.mono (by omega), hXx, hr.mono (by omega)⟩, hd9⟩
                case measure => simp [intOf] <;> omega
            · have h0' := nat_eq_f h0
              have h1' : ((q2 : Int) == 1) = false := by rw [beq_eq_false_iff_ne]; omega
              go_wp2_with fail
              refine (l30Turn_any rb _ _ old _ hr7 (by omega) hO7 ho18).mono ?_
              rintro e w8 ⟨nv, nt, rfl, hn18, hN, hd9, hr8⟩
              obtain ⟨an, cn, hnv, _⟩ := hN.shape
              subst hnv
              have hX8 := hd9.rdS hX7 (fun b hb => by omega)
              have hd8 := hd8.tr hd9
              obtain ⟨x, hx⟩ : ∃ x, treeSet cur ⟨p, nt⟩ = x := ⟨_, rfl⟩
              have hSmx : Sm (100 + 100 * (3 - k)) x := by rw [← hx]; exact sm_set hSm hp100
              have ST := specTreeSet _ cur p _ nt _ hX8 hpm hN.rd (by omega)
              rw [hx] at ST
              go_wp2_with fail
              refine ST.mono ?_
              rintro e w9 ⟨xv, rfl, hXx, hb9⟩
              obtain ⟨ax, cx, hxv, _⟩ := rd_slice_elim hXx
              subst hxv
              have hXx := Rep.mono (S' := fun b => rb < b) (fun b hb => Nat.lt_of_lt_of_le hr8.lt hb) hXx
              have hXc := Rep.below hX8 (Nat.le_refl _) hb9
              have hr := hr8.below hr8.lt hb9
              have hd9 := hd8.below hb9
              clear hx hO7 hb9 hX7 hr7 hX8 hr8 ST hN
              cases hT : treeB x with
              | false =>
                go_wp2_with fail
                refine (l4Ok_is _ x _ hXx hT).mono ?_
                rintro e w10 ⟨rfl, hb10⟩
                have hXc := Rep.below hXc (Nat.le_refl _) hb10
                have hr := hr.below hr.lt hb10
                have hd9 := hd9.below hb10
                clear hT
                go_wp2
                go_roundw
                case rel => exact ⟨⟨cur, k - 1, by go_num, by omega, hSm.mono (by omega), hXc, hr.mono (by omega)⟩, hd9⟩
                case measure => simp [intOf] <;> omega
              | true =>
                go_wp2_with fail
                refine (l4Ok_is _ x _ hXx hT).mono ?_
                rintro e w10 ⟨rfl, hb10⟩
                have hXx := Rep.below hXx (Nat.le_refl _) hb10
                have hr := hr.below hr.lt hb10
                have hd9 := hd9.below hb10
                clear hT
                go_wp2
                go_roundw
                case rel => exact ⟨⟨x, k - 1, by go_num, by omega, hSmx.mono (by omega), hXx, hr.mono (by omega)⟩, hd9⟩
                case measure => simp [intOf] <;> omega
        · have hq0' : decide (0 < q) = false := decide_eq_false hq0
          obtain ⟨p, hp⟩ : ∃ p, p = s := ⟨_, rfl⟩
          subst hp
          have hp100 : p.size ≤ 100 + 100 * (3 - k) := by omega
          obtain ⟨old, hold⟩ : ∃ old, (getT cur p).getD [] = old := ⟨_, rfl⟩
          have ho18 : old.length ≤ 18 := by rw [← hold]; exact getT_len18 hSm p
          have GI := l4Get_in (S := fun b => rb < b) _ cur p _ hX rfl
          rw [hold] at GI
          clear hold
          go_wp2_with fail
          refine GI.mono ?_
          rintro e w6 ⟨ov, rfl, hO, rfl⟩
          obtain ⟨ao, co, hov, _⟩ := rd_slice_elim hO
          subst hov
          clear GI
          go_wp2_with fail
          refine (pick_any rb _ _ _ hr (by omega) (by omega)).mono ?_
          rintro e w7 ⟨q2, rfl, hq2, hd7, hr7⟩
          have hX7 := hd7.rdS hX (fun b hb => by omega)
          have hO7 := hd7.rdS hO (fun b hb => by omega)
          have hd8 := hd5.tr hd7
          have hq3 : q2 ≤ 3 := by omega
          clear hq2 hX hO hr hd7 hd5
          have hpz : p.size ≤ 1048576 := by omega
          have hpm : p.size ≤ maxLen := by unfold maxLen; omega
          by_cases h0 : q2 = 0
          · subst h0
            obtain ⟨x, hx⟩ : ∃ x, treeDrop cur p = x := ⟨_, rfl⟩
            have hSmx : Sm (100 + 100 * (3 - k)) x := by rw [← hx]; exact sm_drop hSm p
            go_wp2_with fail
            refine (specTreeDrop_in _ cur p _ hX7 hpm rfl hx).mono ?_
            rintro e w9 ⟨xv, rfl, hXx, hb9⟩
            obtain ⟨ax, cx, hxv, _⟩ := rd_slice_elim hXx
            subst hxv
            have hXx := Rep.mono (S' := fun b => rb < b) (fun b hb => Nat.lt_of_lt_of_le hr7.lt hb) hXx
            have hXc := Rep.below hX7 (Nat.le_refl _) hb9
            have hr := hr7.below hr7.lt hb9
            have hd9 := hd8.below hb9
            clear hx hO7 hb9 hX7 hr7
            cases hT : treeB x with
            | false =>
              go_wp2_with fail
              refine (l4Ok_is _ x _ hXx hT).mono ?_
              rintro e w10 ⟨rfl, hb10⟩
              have hXc := Rep.below hXc (Nat.le_refl _) hb10
              have hr := hr.below hr.lt hb10
              have hd9 := hd9.below hb10
              clear hT
              go_wp2
              go_roundw
              case rel => exact ⟨⟨cur, k - 1, by go_num, by omega, hSm.mono (by omega), hXc, hr.mono (by omega)⟩, hd9⟩
              case measure => simp [intOf] <;> omega
            | true =>
              go_wp2_with fail
              refine (l4Ok_is _ x _ hXx hT).mono ?_
              rintro e w10 ⟨rfl, hb10⟩
              have hXx := Rep.below hXx (Nat.le_refl _) hb10
              have hr := hr.below hr.lt hb10
              have hd9 := hd9.below hb10
              clear hT
              go_wp2
              go_roundw
              case rel => exact ⟨⟨x, k - 1, by go_num, by omega, hSmx.mono (by omega), hXx, hr.mono (by omega)⟩, hd9⟩
              case measure => simp [intOf] <;> omega
          · by_cases h1 : q2 = 1
            · subst h1
              go_wp2_with fail
              refine (l30Path_any rb _ _ hr7 (by omega)).mono ?_
              rintro e w8 ⟨dst, rfl, hds, hd9, hr8⟩
              have hX8 := hd9.rdS hX7 (fun b hb => by omega)
              have hd8 := hd8.tr hd9
              obtain ⟨x, hx⟩ : ∃ x, treeMove cur p dst = x := ⟨_, rfl⟩
              have hSmx : Sm (100 + 100 * (3 - k) + 100) x := by rw [← hx]; exact sm_move hSm hds
              go_wp2_with fail
              refine (specTreeMove _ cur p dst _ hX8 hpz (by omega) (fun f hf => by have := (hSm.2 f hf).1; omega) rfl hx).mono ?_
              rintro e w9 ⟨xv, rfl, hXx, hb9⟩
              obtain ⟨ax, cx, hxv, _⟩ := rd_slice_elim hXx
              subst hxv
              have hXx := Rep.mono (S' := fun b => rb < b) (fun b hb => Nat.lt_of_lt_of_le hr8.lt hb) hXx
              have hXc := Rep.below hX8 (Nat.le_refl _) hb9
              have hr := hr8.below hr8.lt hb9
              have hd9 := hd8.below hb9
              clear hx hO7 hb9 hX7 hr7 hX8 hr8
              cases hT : treeB x with
              | false =>
                go_wp2_with fail
                refine (l4Ok_is _ x _ hXx hT).mono ?_
                rintro e w10 ⟨rfl, hb10⟩
                have hXc := Rep.below hXc (Nat.le_refl _) hb10
                have hr := hr.below hr.lt hb10
                have hd9 := hd9.below hb10
                clear hT
                go_wp2
                go_roundw
                case rel => exact ⟨⟨cur, k - 1, by go_num, by omega, hSm.mono (by omega), hXc, hr.mono (by omega)⟩, hd9⟩
                case measure => simp [intOf] <;> omega
              | true =>
                go_wp2_with fail
                refine (l4Ok_is _ x _ hXx hT).mono ?_
                rintro e w10 ⟨rfl, hb10⟩
                have hXx := Rep.below hXx (Nat.le_refl _) hb10
                have hr := hr.below hr.lt hb10
                have hd9 := hd9.below hb10
                clear hT
                go_wp2
                go_roundw
                case rel => exact ⟨⟨x, k - 1, by go_num, by omega, hSmx.mono (by omega), hXx, hr.mono (by omega)⟩, hd9⟩
                case measure => simp [intOf] <;> omega
            · have h0' := nat_eq_f h0
              have h1' : ((q2 : Int) == 1) = false := by rw [beq_eq_false_iff_ne]; omega
              go_wp2_with fail
              refine (l30Turn_any rb _ _ old _ hr7 (by omega) hO7 ho18).mono ?_
              rintro e w8 ⟨nv, nt, rfl, hn18, hN, hd9, hr8⟩
              obtain ⟨an, cn, hnv, _⟩ := hN.shape
              subst hnv
              have hX8 := hd9.rdS hX7 (fun b hb => by omega)
              have hd8 := hd8.tr hd9
              obtain ⟨x, hx⟩ : ∃ x, treeSet cur ⟨p, nt⟩ = x := ⟨_, rfl⟩
              have hSmx : Sm (100 + 100 * (3 - k)) x := by rw [← hx]; exact sm_set hSm hp100
              have ST := specTreeSet _ cur p _ nt _ hX8 hpm hN.rd (by omega)
              rw [hx] at ST
              go_wp2_with fail
              refine ST.mono ?_
              rintro e w9 ⟨xv, rfl, hXx, hb9⟩
              obtain ⟨ax, cx, hxv, _⟩ := rd_slice_elim hXx
              subst hxv
              have hXx := Rep.mono (S' := fun b => rb < b) (fun b hb => Nat.lt_of_lt_of_le hr8.lt hb) hXx
              have hXc := Rep.below hX8 (Nat.le_refl _) hb9
              have hr := hr8.below hr8.lt hb9
              have hd9 := hd8.below hb9
              clear hx hO7 hb9 hX7 hr7 hX8 hr8 ST hN
              cases hT : treeB x with
              | false =>
                go_wp2_with fail
                refine (l4Ok_is _ x _ hXx hT).mono ?_
                rintro e w10 ⟨rfl, hb10⟩
                have hXc := Rep.below hXc (Nat.le_refl _) hb10
                have hr := hr.below hr.lt hb10
                have hd9 := hd9.below hb10
                clear hT
                go_wp2
                go_roundw
                case rel => exact ⟨⟨cur, k - 1, by go_num, by omega, hSm.mono (by omega), hXc, hr.mono (by omega)⟩, hd9⟩
                case measure => simp [intOf] <;> omega
              | true =>
                go_wp2_with fail
                refine (l4Ok_is _ x _ hXx hT).mono ?_
                rintro e w10 ⟨rfl, hb10⟩
                have hXx := Rep.below hXx (Nat.le_refl _) hb10
                have hr := hr.below hr.lt hb10
                have hd9 := hd9.below hb10
                clear hT
                go_wp2
                go_roundw
                case rel => exact ⟨⟨x, k - 1, by go_num, by omega, hSmx.mono (by omega), hXx, hr.mono (by omega)⟩, hd9⟩
                case measure => simp [intOf] <;> omega
      · have hpos' : decide (0 < cur.length) = false := decide_eq_false hpos
        obtain ⟨p, hp⟩ : ∃ p, p = s := ⟨_, rfl⟩
        subst hp
        have hp100 : p.size ≤ 100 + 100 * (3 - k) := by omega
        have hr := hr3
        clear hr3
        obtain ⟨old, hold⟩ : ∃ old, (getT cur p).getD [] = old := ⟨_, rfl⟩
        have ho18 : old.length ≤ 18 := by rw [← hold]; exact getT_len18 hSm p
        have GI := l4Get_in (S := fun b => rb < b) _ cur p _ hX rfl
        rw [hold] at GI
        clear hold
        go_wp2_with fail
        refine GI.mono ?_
        rintro e w6 ⟨ov, rfl, hO, rfl⟩
        obtain ⟨ao, co, hov, _⟩ := rd_slice_elim hO
        subst hov
        clear GI
        go_wp2_with fail
        refine (pick_any rb _ _ _ hr (by omega) (by omega)).mono ?_
        rintro e w7 ⟨q2, rfl, hq2, hd7, hr7⟩
        have hX7 := hd7.rdS hX (fun b hb => by omega)
        have hO7 := hd7.rdS hO (fun b hb => by omega)
        have hd8 := hd5.tr hd7
        have hq3 : q2 ≤ 3 := by omega
        clear hq2 hX hO hr hd7 hd5
        have hpz : p.size ≤ 1048576 := by omega
        have hpm : p.size ≤ maxLen := by unfold maxLen; omega
        by_cases h0 : q2 = 0
        · subst h0
          obtain ⟨x, hx⟩ : ∃ x, treeDrop cur p = x := ⟨_, rfl⟩
          have hSmx : Sm (100 + 100 * (3 - k)) x := by rw [← hx]; exact sm_drop hSm p
          go_wp2_with fail
          refine (specTreeDrop_in _ cur p _ hX7 hpm rfl hx).mono ?_
          rintro e w9 ⟨xv, rfl, hXx, hb9⟩
          obtain ⟨ax, cx, hxv, _⟩ := rd_slice_elim hXx
          subst hxv
          have hXx := Rep.mono (S' := fun b => rb < b) (fun b hb => Nat.lt_of_lt_of_le hr7.lt hb) hXx
          have hXc := Rep.below hX7 (Nat.le_refl _) hb9
          have hr := hr7.below hr7.lt hb9
          have hd9 := hd8.below hb9
          clear hx hO7 hb9 hX7 hr7
          cases hT : treeB x with
          | false =>
            go_wp2_with fail
            refine (l4Ok_is _ x _ hXx hT).mono ?_
            rintro e w10 ⟨rfl, hb10⟩
            have hXc := Rep.below hXc (Nat.le_refl _) hb10
            have hr := hr.below hr.lt hb10
            have hd9 := hd9.below hb10
            clear hT
            go_wp2
            go_roundw
            case rel => exact ⟨⟨cur, k - 1, by go_num, by omega, hSm.mono (by omega), hXc, hr.mono (by omega)⟩, hd9⟩
            case measure => simp [intOf] <;> omega
          | true =>
            go_wp2_with fail
            refine (l4Ok_is _ x _ hXx hT).mono ?_
            rintro e w10 ⟨rfl, hb10⟩
            have hXx := Rep.below hXx (Nat.le_refl _) hb10
            have hr := hr.below hr.lt hb10
            have hd9 := hd9.below hb10
            clear hT
            go_wp2
            go_roundw
            case rel => exact ⟨⟨x, k - 1, by go_num, by omega, hSmx.mono (by omega), hXx, hr.mono (by omega)⟩, hd9⟩
            case measure => simp [intOf] <;> omega
        · by_cases h1 : q2 = 1
          · subst h1
            go_wp2_with fail
            refine (l30Path_any rb _ _ hr7 (by omega)).mono ?_
            rintro e w8 ⟨dst, rfl, hds, hd9, hr8⟩
            have hX8 := hd9.rdS hX7 (fun b hb => by omega)
            have hd8 := hd8.tr hd9
            obtain ⟨x, hx⟩ : ∃ x, treeMove cur p dst = x := ⟨_, rfl⟩
            have hSmx : Sm (100 + 100 * (3 - k) + 100) x := by rw [← hx]; exact sm_move hSm hds
            go_wp2_with fail
            refine (specTreeMove _ cur p dst _ hX8 hpz (by omega) (fun f hf => by have := (hSm.2 f hf).1; omega) rfl hx).mono ?_
            rintro e w9 ⟨xv, rfl, hXx, hb9⟩
            obtain ⟨ax, cx, hxv, _⟩ := rd_slice_elim hXx
            subst hxv
            have hXx := Rep.mono (S' := fun b => rb < b) (fun b hb => Nat.lt_of_lt_of_le hr8.lt hb) hXx
            have hXc := Rep.below hX8 (Nat.le_refl _) hb9
            have hr := hr8.below hr8.lt hb9
            have hd9 := hd8.below hb9
            clear hx hO7 hb9 hX7 hr7 hX8 hr8
            cases hT : treeB x with
            | false =>
              go_wp2_with fail
              refine (l4Ok_is _ x _ hXx hT).mono ?_
              rintro e w10 ⟨rfl, hb10⟩
              have hXc := Rep.below hXc (Nat.le_refl _) hb10
              have hr := hr.below hr.lt hb10
              have hd9 := hd9.below hb10
              clear hT
              go_wp2
              go_roundw
              case rel => exact ⟨⟨cur, k - 1, by go_num, by omega, hSm.mono (by omega), hXc, hr.mono (by omega)⟩, hd9⟩
              case measure => simp [intOf] <;> omega
            | true =>
              go_wp2_with fail
              refine (l4Ok_is _ x _ hXx hT).mono ?_
              rintro e w10 ⟨rfl, hb10⟩
              have hXx := Rep.below hXx (Nat.le_refl _) hb10
              have hr := hr.below hr.lt hb10
              have hd9 := hd9.below hb10
              clear hT
              go_wp2
              go_roundw
              case rel => exact ⟨⟨x, k - 1, by go_num, by omega, hSmx.mono (by omega), hXx, hr.mono (by omega)⟩, hd9⟩
              case measure => simp [intOf] <;> omega
          · have h0' := nat_eq_f h0
            have h1' : ((q2 : Int) == 1) = false := by rw [beq_eq_false_iff_ne]; omega
            go_wp2_with fail
            refine (l30Turn_any rb _ _ old _ hr7 (by omega) hO7 ho18).mono ?_
            rintro e w8 ⟨nv, nt, rfl, hn18, hN, hd9, hr8⟩
            obtain ⟨an, cn, hnv, _⟩ := hN.shape
            subst hnv
            have hX8 := hd9.rdS hX7 (fun b hb => by omega)
            have hd8 := hd8.tr hd9
            obtain ⟨x, hx⟩ : ∃ x, treeSet cur ⟨p, nt⟩ = x := ⟨_, rfl⟩
            have hSmx : Sm (100 + 100 * (3 - k)) x := by rw [← hx]; exact sm_set hSm hp100
            have ST := specTreeSet _ cur p _ nt _ hX8 hpm hN.rd (by omega)
            rw [hx] at ST
            go_wp2_with fail
            refine ST.mono ?_
            rintro e w9 ⟨xv, rfl, hXx, hb9⟩
            obtain ⟨ax, cx, hxv, _⟩ := rd_slice_elim hXx
            subst hxv
            have hXx := Rep.mono (S' := fun b => rb < b) (fun b hb => Nat.lt_of_lt_of_le hr8.lt hb) hXx
            have hXc := Rep.below hX8 (Nat.le_refl _) hb9
            have hr := hr8.below hr8.lt hb9
            have hd9 := hd8.below hb9
            clear hx hO7 hb9 hX7 hr7 hX8 hr8 ST hN
            cases hT : treeB x with
            | false =>
              go_wp2_with fail
              refine (l4Ok_is _ x _ hXx hT).mono ?_
              rintro e w10 ⟨rfl, hb10⟩
              have hXc := Rep.below hXc (Nat.le_refl _) hb10
              have hr := hr.below hr.lt hb10
              have hd9 := hd9.below hb10
              clear hT
              go_wp2
              go_roundw
              case rel => exact ⟨⟨cur, k - 1, by go_num, by omega, hSm.mono (by omega), hXc, hr.mono (by omega)⟩, hd9⟩
              case measure => simp [intOf] <;> omega
            | true =>
              go_wp2_with fail
              refine (l4Ok_is _ x _ hXx hT).mono ?_
              rintro e w10 ⟨rfl, hb10⟩
              have hXx := Rep.below hXx (Nat.le_refl _) hb10
              have hr := hr.below hr.lt hb10
              have hd9 := hd9.below hb10
              clear hT
              go_wp2
              go_roundw
              case rel => exact ⟨⟨x, k - 1, by go_num, by omega, hSmx.mono (by omega), hXx, hr.mono (by omega)⟩, hd9⟩
              case measure => simp [intOf] <;> omega
    · go_wp2
      go_ret
      exact ⟨_, cur, rfl, hSm.mono (by omega), hX, hd, hr.mono (by omega)⟩
/-- two trees drawn -/
def TwoTrees (w : World) (e : Ending) (w' : World) : Prop :=
  ∃ (v u : Value) (a b : List File), e = .returned (.tuple #[v, u]) ∧ Sm 400 a ∧ Sm 400 b ∧ rd (fun b => w.heap.size ≤ b) w' [v] a ∧ rd (fun b => w.heap.size ≤ b) w' [u] b ∧ Below w.heap.size w w'
end Go.Proofs.YthddcfbjgcbioaaGreatDoor
namespace Go.Proofs.YthddcfbjgcbioaaGreatDoor
open Go.RowKit Go.Vc
open Go.Vc.Rep (rd)
open Go.Vc.Own (own)
/-- three trees drawn -/
def ThreeTrees (w : World) (e : Ending) (w' : World) : Prop :=
  ∃ (v u x : Value) (o a b : List File), e = .returned (.tuple #[v, u, x]) ∧ Sm 400 o ∧ Sm 400 a ∧ Sm 400 b ∧ rd (fun b => w.heap.size ≤ b) w' [v] o ∧ rd (fun b => w.heap.size ≤ b) w' [u] a ∧ rd (fun b => w.heap.size ≤ b) w' [x] b ∧ Below w.heap.size w w'
end Go.Proofs.YthddcfbjgcbioaaGreatDoor
