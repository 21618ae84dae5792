/-
  Walks: patches drawn.
-/
import Derived.Test.YthhmaclhggmneaaDoorVDR
import Derived.Test.YthhmaclhggmneaaDoorVFS
import Derived.Test.YthhmaclhggmneaaDoorVRW
import Derived.Test.YthhmaclhggmneaaDoorFreshUp
import Derived.Test.YthhmaclhggmneaaDoorVI
import Derived.Test.YthhmaclhggmneaaDoorWM4
import Derived.Test.YthhmaclhggmneaaDoorWP3
import Derived.Test.YthhmaclhggmneaaDoorVPM
set_option linter.unusedVariables false
namespace Go.Vc
open Go.RowKit
open Rep (rd)
theorem alloc_szP (w : World) (o : Obj) : (w.alloc o).heap.size = w.heap.size + 1 := by simp
theorem one_cells3 (n : Int) (a : Option Addr) (k c : Nat) (b : Option Addr) (m d : Nat) : ∀ u ∈ [Value.int .i64 n, .slice a k c, .slice b m d], u.oneCell' = true := by
  intro u hu
  simp only [List.mem_cons, List.not_mem_nil, or_false] at hu
  rcases hu with rfl | rfl | rfl <;> rfl
/-- as the reference's difference says -/
def dOf (a b : List ByteArray) : List Hunk := if textB a = true ∧ textB b = true then diffT a b else []
theorem dOf_few (a b : List ByteArray) : (dOf a b).length ≤ 8 ∧ ∀ i (h : i < (dOf a b).length), 0 ≤ (dOf a b)[i].at_ ∧ (dOf a b)[i].at_ ≤ 10 ∧ (dOf a b)[i].less.length ≤ 1000 := by
  unfold dOf
  split
  · rename_i h
    obtain ⟨h1, h2⟩ := df_chain h.1 h.2 (pairsT a b) 0 0 0 (pairs_ok a b) (Nat.le_refl _)
    have ha := po_ten h.1
    have hb := po_ten h.2
    refine ⟨by show (df a b (pairsT a b) 0 0 0).length ≤ 8; omega, fun i hi => ?_⟩
    have h3 := (chain_at h1 i hi).1
    unfold hunkB withinB at h3
    simp only [Bool.and_eq_true, decide_eq_true_eq] at h3
    exact ⟨h3.1.1.1.1, h3.1.1.1.2, Nat.le_trans (po_ten h3.1.1.2) (by omega)⟩
  · exact ⟨by simp, fun i hi => by simp at hi⟩
end Go.Vc
namespace Go.Proofs.YthhmaclhggmneaaDoor
open Go.RowKit Go.Vc
open Go.Vc.Rep (rd)
open Go.Vc.Own (own)
set_option maxHeartbeats 2000000 in
theorem specDiffOf {S T : Nat → Prop} (v u : Value) (xs ys : List ByteArray) (w : World) (hv : rd S w [v] xs) (hu : rd T w [u] ys) :
    Calls Tryd.prog 87 #[v, u] w fun e w' => ∃ v', e = .returned v' ∧ Fresh w.heap.size w'.heap.size w' [v'] (dOf xs ys) ∧ Below w.heap.size w w' := by
  obtain ⟨a, cap, rfl, hs⟩ := rd_slice_elim hv
  obtain ⟨b, cbp, rfl, ht⟩ := rd_slice_elim hu
  cases hx : textB xs with
  | false =>
    have HD : Hid (dOf xs ys = []) := by show _ = _; unfold dOf; rw [if_neg (by rw [hx]; simp)]
    go_enter Tryd.func87, Tryd.ntmps87
    go_wp2_with fail
    refine (l1Ok_is _ xs _ hs.rd hx).mono ?_
    rintro e w1 ⟨rfl, rfl⟩
    go_wp2
    go_ret
    exact ⟨_, rfl, by rw [HD.out]; exact Fresh.nil _ _ _ (by decide), Below.refl _ _⟩
  | true =>
    cases hy : textB ys with
    | false =>
      have HD : Hid (dOf xs ys = []) := by show _ = _; unfold dOf; rw [if_neg (by rw [hy]; simp)]
      go_enter Tryd.func87, Tryd.ntmps87
      go_wp2_with fail
      refine (l1Ok_is _ xs _ hs.rd hx).mono ?_
      rintro e w1 ⟨rfl, rfl⟩
      go_wp2_with fail
      refine (l1Ok_is _ ys _ ht.rd hy).mono ?_
      rintro e w1 ⟨rfl, rfl⟩
      go_wp2
      go_ret
      exact ⟨_, rfl, by rw [HD.out]; exact Fresh.nil _ _ _ (by decide), Below.refl _ _⟩
    | true =>
      have HD : Hid (dOf xs ys = diffT xs ys) := by show _ = _; unfold dOf; rw [if_pos ⟨hx, hy⟩]
      have h1 := po_ten hx
      have h2 := po_ten hy
      go_enter Tryd.func87, Tryd.ntmps87
      go_wp2_with fail
      refine (l1Ok_is _ xs _ hs.rd hx).mono ?_
      rintro e w1 ⟨rfl, rfl⟩
      go_wp2_with fail
      refine (l1Ok_is _ ys _ ht.rd hy).mono ?_
      rintro e w1 ⟨rfl, rfl⟩
      go_wp2_with fail
      refine (l1Of_any _ _ xs ys _ hs.rd ht.rd h1 h2).mono ?_
      rintro e w2 ⟨v', rfl, hF, hb⟩
      go_wp2
      go_ret
      exact ⟨_, rfl, by rw [HD.out]; exact hF, hb⟩
set_option maxHeartbeats 8000000 in
set_option maxRecDepth 100000 in
theorem l30Patch_any {S : Nat → Prop} (rb N : Nat) (v : Value) (t : List ByteArray) (w : World) (h : RdOk w rb N) (hN : N ≤ 900000) (hv : rd S w [v] t) (hSb : ∀ b, S b → b ≠ rb) (ht : t.length ≤ 18) :
    Calls Tryd.prog 52 #[.pointer (some ⟨rb, 0, none⟩), v] w fun e w' => ∃ (v : Value) (d : List Hunk), e = .returned v ∧ rd (fun b => w.heap.size ≤ b) w' [v] d ∧ Drew rb w w' ∧ RdOk w' rb (N + 60) := by
  have hlt := h.lt
  obtain ⟨a0, c0, hv0, _⟩ := rd_slice_elim hv
  subst hv0
  go_enter Tryd.func52, Tryd.ntmps52
  go_wp2_with fail
  refine (l30Turn_any rb N _ t _ h (by omega) hv ht).mono ?_
  rintro e w1 ⟨nv, nt, rfl, hn18, hNt, hd1, hr1⟩
  have hv1 := hd1.rdS hv hSb
  have hs1 := hd1.size
  go_wp2_with fail
  refine (specDiffOf _ _ t nt _ hv1 hNt.rd).mono ?_
  rintro e w2 ⟨dv, rfl, hF, hb2⟩
  obtain ⟨hd8, hat0⟩ := dOf_few t nt
  have hat := fun i h => And.intro (hat0 i h).1 (hat0 i h).2.1
  have hlen := fun i h => (hat0 i h).2.2
  clear hat0
  obtain ⟨d, hde⟩ : ∃ d, d = dOf t nt := ⟨_, rfl⟩
  rw [← hde] at hF hd8 hat hlen
  have hr := hr1.below hr1.lt hb2
  have hd := hd1.below hb2
  have hs2 := hd.size
  have hF := hF.mono (B' := w.heap.size) (by omega) (Nat.le_refl _)
  obtain ⟨a, c, hv2, _⟩ := hF.shape
  subst hv2
  clear hr1 hb2 hNt hv1 hv h hd1 hde hs1
  by_cases h0 : 0 < d.length
  · go_wp2_with fail
    refine (pick_any rb _ _ _ hr (by omega) (by omega)).mono ?_
    rintro e w3 ⟨k, rfl, hk, hd2, hr2⟩
    have hk' : k < d.length := by omega
    go_wp2_with fail
    refine (pick_any rb _ _ _ hr2 (by omega) (by omega)).mono ?_
    rintro e w4 ⟨q, rfl, _, hd3, hr3⟩
    have hF3 := (hd3.fresh (hd2.fresh hF (.inl hlt)).now (.inl hlt)).now
    have hd := (hd.tr hd2).tr hd3
    have hs3 := hd.size
    clear hF hr hr2 hd2 hd3 hk
    obtain ⟨g2, hg0, hg2, hg3⟩ := hF3.addr h0
    subst hg0
    by_cases hq0 : q = 0
    · subst hq0
      obtain ⟨g, off, a1, c1, a2, c2, he, hc0, _, _, hi0, _, _⟩ := ((rd_slice_of hF3.rd2).2).hunk hk'
      obtain ⟨rfl, rfl⟩ : g2 = g ∧ 0 = off := by simpa using he
      rw [Nat.zero_add] at hc0
      obtain ⟨n, hn⟩ : ∃ n, n = d[k].at_ := ⟨_, rfl⟩
      have hn1 := hat k hk'
      rw [← hn] at hc0 hn1
      have hw1 : IntKind.i64.wrap (n + 1) = n + 1 := IntWalk.i64_in _ (by omega)
      have hn2 := hn1.1
      have hn3 := hn1.2
      clear hn hat hlen he hi0 hn1
      go_wp2_with fail
      refine (one_any (S := fun b => b = w4.heap.size) rb _ _ [-1, 0, 11, n + 1] _ (hr3.alloc _) (by omega)
        (lit_ints ([-1, 0, 11, n + 1] : List Int) (heap_alloc_new _ _) (by intro s hs; simp at hs; unfold I64; omega) (by unfold maxLen; simp)).rd (by intro b hb; have := hr3.lt; omega) (by simp) (by simp)).mono ?_
      rintro e w5 ⟨m, rfl, hm, hd4, hr4⟩
      have hmI : I64 m := by simp at hm; unfold I64; omega
      have hd4 := (Drew.of ((Below.refl w4.heap.size w4).alloc (Nat.le_refl _) _)).tr hd4
      have hF4 := (hd4.fresh hF3 (.inl hlt)).now
      have hd5 := hd.tr hd4
      obtain ⟨⟨u', hu⟩, hfz, _, hF7⟩ := hF4.setL lens_hunk_at_ hd5.size hk' (Below.refl _ _) (show Fresh w5.heap.size w5.heap.size w5 [.int .i64 m] m from Fresh.leaf ⟨rfl, rfl, hmI⟩)
      have hu' : w5.cell? ⟨g2, k * 3, none⟩ = some u' := hu
      have hfz' : w5.frozen? ⟨g2, k * 3, none⟩ = false := hfz
      have hF8 := hF7.rd
      clear hu hfz hm hc0
      go_wp2
      go_ret
      exact ⟨_, _, rfl, hF8, hd5.belowB ((Below.refl _ _).setCell hg2 _) (Nat.le_refl _), (hr4.below (B := w.heap.size) hlt ((Below.refl _ _).setCell hg2 _)).mono (by omega)⟩
    · have hq0' := nat_eq_f hq0
      by_cases hq1 : q = 1
      · subst hq1
        have hEm := Fresh.empty (β := ByteArray) (by decide) w4.heap.size w4 (Nat.le_refl _)
        obtain ⟨g, off, a1, c1, a2, c2, he, _, hc1, _, _, hls, _⟩ := ((rd_slice_of hF3.rd2).2).hunk hk'
        obtain ⟨rfl, rfl⟩ : g2 = g ∧ 0 = off := by simpa using he
        rw [Nat.zero_add] at hc1
        obtain ⟨ls, hlse⟩ : ∃ ls, ls = d[k].less := ⟨_, rfl⟩
        have hl10 : ls.length ≤ 1000 := by rw [hlse]; exact hlen k hk'
        rw [← hlse] at hc1 hls
        clear he hlse hat hlen
        have hb1 : ∀ W : World, (([] : List ByteArray).length + ls.length) * 16 ≤ 140737488355328 := fun _ => by rw [List.length_nil]; omega
        have hb2 : ∀ W : World, ([] : List ByteArray).length + ls.length ≤ maxLen := fun _ => by rw [List.length_nil]; unfold maxLen; omega
        have HB1 := Lib.hid hb1
        have HB2 := Lib.hid hb2
        have hbA : ∀ (w5 : World), Below w4.heap.size (w4.alloc (.cells #[] 9)) w5 → Below w4.heap.size w4 w5 ∧ w4.heap.size ≤ w5.heap.size := fun w5 h => ⟨((Below.refl w4.heap.size w4).alloc (Nat.le_refl _) _).trans h, by have := h.size; rw [alloc_szP] at this; omega⟩
        have hbB : ∀ (w5 w6 : World), Below w4.heap.size w4 w5 → Below w4.heap.size (w5.alloc (.cells #[.string ⟨#[122, 122]⟩] 9)) w6 → Below w4.heap.size w4 w6 := fun w5 w6 h h' => (h.alloc h.size _).trans h'
        have hCC : ∀ (w6 : World), Below w4.heap.size w4 w6 → w6.cell? ⟨g2, k * 3 + 1, none⟩ = some (.slice a1 ls.length c1) := fun w6 h => keepc hc1 h
        have hFF : ∀ (w6 : World), Below w4.heap.size w4 w6 → w6.frozen? ⟨g2, k * 3 + 1, none⟩ = false := fun w6 h => by
          obtain ⟨_, hfz, _⟩ := hF3.there hk' (j := 1) (by decide)
          have hfz' : w4.frozen? ⟨g2, k * 3 + 1, none⟩ = false := hfz
          rw [World.frozen?_of_block (w := w4) (h.block g2 (by omega))]
          exact hfz'
        have hRR : ∀ (w6 : World) (a6 : Option Addr) (c6 : Nat), Below w4.heap.size w4 w6 → Fresh w4.heap.size w6.heap.size w6 [.slice a6 (ls.length + 1) c6] (ls ++ [(⟨#[122, 122]⟩ : ByteArray)]) → rd (fun b => w.heap.size ≤ b) (w6.setCell ⟨g2, k * 3 + 1, none⟩ (.slice a6 (ls.length + 1) c6)) [.slice (some ⟨g2, 0, none⟩) d.length c] (d.set k ⟨d[k].at_, ls ++ [(⟨#[122, 122]⟩ : ByteArray)], d[k].more⟩) := fun w6 a6 c6 h hF => (hF3.setL lens_hunk_less hs3 hk' h hF).2.2.2.rd
        have HBA := Lib.hid hbA
        have HBB := Lib.hid hbB
        have HCC := Lib.hid hCC
        have HFF := Lib.hid hFF
        have HRR := Lib.hid hRR
        clear hb1 hb2 hbA hbB hCC hFF hRR
        go_wp2_with (first
          | (at_builtin; (with_reducible refine wpList_app_leaf slz_string.slt rfl (.tmp 40) (.tmp 45) rfl rfl hEm (le_alloc (Nat.le_refl _) _) rfl rfl (hls.alloc _) (HB1.out w4) (HB2.out w4) ?_); intro a5 c5 w5 hG5; have hF5 := hG5.fresh; rw [List.nil_append, List.length_nil, Nat.zero_add] at hF5; have hb5 := HBA.out w5 hG5.below)
          | (at_builtin; (refine wpList_app_leaf slz_string.slt rfl (.tmp 46) (.tmp 47) rfl rfl (hF5.alloc _) (by rw [alloc_szP]; omega) rfl rfl (lit_strs ([⟨#[122, 122]⟩] : List ByteArray) (heap_alloc_new _ _) (by decide) (by decide)) (by rw [List.length_singleton]; omega) (by rw [List.length_singleton]; unfold maxLen; omega) ?_); intro a6 c6 w6 hG6; have hb6 := HBB.out w5 w6 hb5.1 hG6.below; have hu6 := HCC.out w6 hb6; have hfz6 := HFF.out w6 hb6))
        have hF6 := hG6.fresh
        rw [List.length_singleton] at hF6
        go_ret
        exact ⟨_, _, rfl, HRR.out w6 a6 c6 hb6 hF6, hd.belowB ((hb6.mono hs3).setCell hg2 _) (Nat.le_refl _), (hr3.below (B := w.heap.size) hlt ((hb6.mono hs3).setCell hg2 _)).mono (by omega)⟩
      · have hq1' := nat_eq_f hq1
        by_cases hq2 : q = 2
        · subst hq2
          obtain ⟨H, rs, hrl, hFX, hA2, hH⟩ := hF3.toRaw
          have hraw := hA2.at k (by omega) hk'
          obtain ⟨g9, off9, us9, e1, _, e3, e4⟩ := (rd_slice_of hFX.fresh.rd).2.elem (i := k) (by omega)
          obtain ⟨rfl, rfl⟩ : g2 = g9 ∧ 0 = off9 := by simpa using e1
          obtain ⟨b1, n1, b2, n2, e5, _⟩ := rd_hunk hraw
          have e4 : us9 = rs[k].vs := e4
          rw [e5] at e4 hraw
          subst e4
          have c0 := e3 0 _ rfl
          have c1 := e3 1 _ rfl
          have c2 := e3 2 _ rfl
          rw [show Rep.sz (Raw Hunk) = 3 from rfl, Nat.zero_add] at c0 c1 c2
          have c0 : w4.cell? ⟨g2, k * 3, none⟩ = some (.int .i64 d[k].at_) := c0
          have hrs : rs.length ≤ 8 := by omega
          have hH2 : ∀ (o : Obj) b, H b → b < (w4.alloc o).heap.size := fun o b hb => by have := (hH b hb).2.2; rw [alloc_szP]; omega
          obtain ⟨f, hf⟩ : ∃ f, f = d[k] := ⟨_, rfl⟩
          rw [← hf] at c0 c1 c2 hraw
          have HF := Lib.hid hf
          clear e3 e5 e1 hat hlen hf
          go_wp2_with (at_builtin; (refine wpList_app_leafX slz_hunk.slt.raw rfl (.tmp 53) (.tmp 58) rfl rfl (hFX.alloc _) (hH2 _) (by rw [alloc_szP]; omega) rfl rfl (lit_raw (heap_alloc_new _ _) rfl (one_cells3 _ _ _ _ _ _ _) (by decide)) (by rw [List.length_singleton]; omega) (by rw [List.length_singleton]; unfold maxLen; omega) ?_); intro a7 c7 w7 hG7)
          have hb7 : Below w.heap.size w4 w7 := ((Below.refl w.heap.size w4).alloc hs3 _).trans hG7.below
          have hA7 : All2 (fun (r : Raw Hunk) x => Rep.rd (fun b => w.heap.size ≤ b) w7 (Raw.vs r) x) rs d := hA2.mono fun r x h => Rep.frame (fun b hb hl => ⟨po_old hG7 hl (.inr hb), (hH b hb).1⟩) h
          have hN7 : Rep.rd (fun b => w.heap.size ≤ b) w7 [.int .i64 f.at_, .slice b1 f.less.length n1, .slice b2 f.more.length n2] f := Rep.mono (fun b hb => hb.1) (Rep.frame (S := H) (S' := fun b => w.heap.size ≤ b ∧ True) (fun b hb hl => ⟨po_old hG7 hl (.inr hb), (hH b hb).1, trivial⟩) hraw)
          have hAll := All2.snoc (a := (⟨[.int .i64 f.at_, .slice b1 f.less.length n1, .slice b2 f.more.length n2], rfl, one_cells3 _ _ _ _ _ _ _⟩ : Raw Hunk)) (b := f) hA7 hN7
          have hfin : Rep.rd (fun b => w.heap.size ≤ b) w7 [.slice a7 (rs.length + 1) c7] (d ++ [f]) := Rep.mono (fun b hb => by rcases hb with hb | hb; exact hb; exact hb) (hG7.fresh.poRaw hAll)
          rw [hrl] at hfin
          go_ret
          exact ⟨_, _, rfl, hfin, hd.belowB hb7 (Nat.le_refl _), (hr3.below (B := w.heap.size) hlt hb7).mono (by omega)⟩
        · have hq2' := nat_eq_f hq2
          go_wp2
          go_ret
          exact ⟨_, d, rfl, hF3.rd, hd, hr3.mono (by omega)⟩
  · go_wp2
    go_ret
    exact ⟨_, d, rfl, hF.rd, hd, hr.mono (by omega)⟩
end Go.Proofs.YthhmaclhggmneaaDoor
