/-
  What an append leaves alone, and a slice of rows read. No program is in sight here. / Walks: changes drawn, a tree and changes drawn.
-/
import Derived.Test.YtlaklnpdnohofaaGreatDoorVR
import Derived.Test.YtlaklnpdnohofaaGreatDoorVL
import Derived.Test.YtlaklnpdnohofaaGreatDoorVB
import Derived.Test.YtlaklnpdnohofaaGreatDoorVDJ
import Derived.Test.YtlaklnpdnohofaaGreatDoorSplit
import Derived.Test.YtlaklnpdnohofaaGreatDoorVCS
import Derived.Test.YtlaklnpdnohofaaGreatDoorVCH
import Derived.Test.YtlaklnpdnohofaaGreatDoorVFS
set_option linter.unusedVariables false
namespace Go.Vc
open Go.RowKit
open Rep (rd)
/-- what an append at a laid literal leaves alone -/
theorem po_old {α : Type} [Own α] [Tid α] {H : Nat → Prop} {B m : Nat} {wx w5 : World} {v : Value} {xs : List α} {o : Obj} (hG : GrewX H B m (wx.alloc o) w5 v xs) {b : Nat} (hb : b < wx.heap.size) (h : b < B ∨ H b) : w5.heap[b]? = wx.heap[b]? := by
  have e := Below.heap_alloc wx o b hb
  rcases h with h | h
  · exact (hG.below.block b h).trans e
  · exact (hG.holes b (by simp; omega) h).trans e
theorem FreshX.poUp {α : Type} [Own α] {H : Nat → Prop} {B m m' : Nat} {w : World} {vs : List Value} {x : α} (h : FreshX H B m w vs x) (hm : m ≤ m') : FreshX H B m' w vs x := by
  obtain ⟨F, ho, hn, hb, hh⟩ := h
  exact ⟨F, ho, hn, fun b hb' => ⟨(hb b hb').1, by have := hb b hb'; omega⟩, hh⟩
/-- a slice of rows, read -/
theorem FreshX.poRaw {α : Type} [Rep α] [Tid α] {H T : Nat → Prop} {B m : Nat} {w' : World} {v : Value} {rs : List (Raw α)} {xs : List α} (h : FreshX H B m w' [v] rs) (h2 : All2 (fun r x => Rep.rd T w' (Raw.vs r) x) rs xs) : Rep.rd (fun b => B ≤ b ∨ T b) w' [v] xs := by
  obtain ⟨a, cap, rfl, hs⟩ := h.fresh.shape
  have hl := h2.len
  rw [hl]
  exact (hs.unraw h2).rd
theorem po_ten {t : List ByteArray} (h : textB t = true) : t.length ≤ 10 := by simp [textB] at h; exact h.1
end Go.Vc
namespace Go.Vc
open Go.RowKit
theorem alloc_szC (w : World) (o : Obj) : (w.alloc o).heap.size = w.heap.size + 1 := by simp
theorem one_cells5 (n : Int) (s t : ByteArray) (a : Option Addr) (k c : Nat) (b : Option Addr) (m d : Nat) : ∀ u ∈ [Value.int .i64 n, .string s, .string t, .slice a k c, .slice b m d], u.oneCell' = true := by
  intro u hu
  simp only [List.mem_cons, List.not_mem_nil, or_false] at hu
  rcases hu with rfl | rfl | rfl | rfl | rfl <;> rfl
end Go.Vc
namespace Go.Proofs.YtlaklnpdnohofaaGreatDoor
open Go.RowKit Go.Vc
open Go.Vc.Rep (rd)
open Go.Vc.Own (own)
/-- changes of short paths -/
def SmC (l : List Change) : Prop := ∀ c, c ∈ l → ShortS c.path ∧ ShortS c.dst
theorem SmC.set {l : List Change} (h : SmC l) (k : Nat) {c : Change} (hc : ShortS c.path ∧ ShortS c.dst) : SmC (l.set k c) := fun d hd => by
  rcases List.mem_or_eq_of_mem_set hd with hd | rfl
  · exact h d hd
  · exact hc
theorem smC_of {n : Nat} {a b : List File} (ha : Sm n a) (hb : Sm n b) (hn : n ≤ 400) : SmC (changesOf a b) := by
  cases h1 : treeB a with
  | false => unfold changesOf; rw [if_neg (by rw [h1]; simp)]; intro c hc; cases hc
  | true =>
    cases h2 : treeB b with
    | false => unfold changesOf; rw [if_neg (by rw [h2]; simp)]; intro c hc; cases hc
    | true => exact change_short h1 h2 (short_of (by decide)) (fun f hf => short_of (by have := (ha.2 f hf).1; omega)) (fun f hf => short_of (by have := (hb.2 f hf).1; omega))
set_option maxHeartbeats 8000000 in
set_option maxRecDepth 100000 in
theorem l30Changes_any (rb N : Nat) (v : Value) (t : List File) (w : World) (h : RdOk w rb N) (hN : N ≤ 400000) (hv : rd (fun b => rb < b) w [v] t) (hSt : Sm 100 t) :
    Calls Tryz.prog 32 #[.pointer (some ⟨rb, 0, none⟩), v] w fun e w' => ∃ (v : Value) (l : List Change), e = .returned v ∧ SmC l ∧ rd (fun b => rb < b) w' [v] l ∧ Drew rb w w' ∧ RdOk w' rb (N + 200) := by
  have hlt := h.lt
  obtain ⟨a0, c0, hv0, _⟩ := rd_slice_elim hv
  subst hv0
  go_enter Tryz.func32, Tryz.ntmps32
  go_wp2_with fail
  refine (l30TreeTurn_any rb N _ t _ h (by omega) hv hSt).mono ?_
  rintro e w1 ⟨nv, nt, rfl, hSn, hNt, hd1, hr1⟩
  have hv1 := hd1.rdS hv (fun b hb => by omega)
  have hs1 := hd1.size
  obtain ⟨a9, c9, hv9, _⟩ := rd_slice_elim hNt
  subst hv9
  go_wp2_with fail
  refine (specChangesOf _ _ t nt _ hv1 hNt).mono ?_
  rintro e w2 ⟨dv, rfl, hF, hb2⟩
  have hd16 : (changesOf t nt).length ≤ 16 := changes_len
  have hSC : SmC (changesOf t nt) := smC_of (hSt.mono (by omega)) hSn (Nat.le_refl _)
  obtain ⟨d, hde⟩ : ∃ d, d = changesOf t nt := ⟨_, rfl⟩
  rw [← hde] at hF hd16 hSC
  have hr := hr1.below hr1.lt hb2
  have hd := hd1.below hb2
  have hs2 := hd.size
  have hF := hF.mono (B' := w.heap.size) (by omega) (Nat.le_refl _)
  obtain ⟨a, c, hv2, _⟩ := hF.shape
  subst hv2
  clear hr1 hb2 hNt hv1 hv h hd1 hde hs1 hSn hSt
  by_cases h0 : 0 < d.length
  · go_wp2_with fail
    refine (pick_any rb _ _ _ hr (by omega) (by omega)).mono ?_
    rintro e w3 ⟨k, rfl, hk, hd2, hr2⟩
    have hk' : k < d.length := by omega
    go_wp2_with fail
    refine (pick_any rb _ _ _ hr2 (by omega) (by omega)).mono ?_
    rintro e w4 ⟨q, rfl, _, hd3, hr3⟩
    have hF3 := (hd3.fresh (hd2.fresh hF (.inl hlt)).now (.inl hlt)).now
    have hd := (hd.tr hd2).tr hd3
    have hs3 := hd.size
    clear hF hr hr2 hd2 hd3 hk
    obtain ⟨g2, hg0, hg2, hg3⟩ := hF3.addr h0
    subst hg0
    have hkS := hSC _ (List.getElem_mem hk')
    by_cases hq0 : q = 0
    · subst hq0
      go_wp2_with fail
      refine (one_any (S := fun b => b = w4.heap.size) rb _ _ [0, 1, 5] _ (hr3.alloc _) (by omega)
        (lit_ints ([0, 1, 5] : List Int) (heap_alloc_new _ _) (by intro s hs; simp at hs; unfold I64; omega) (by unfold maxLen; simp)).rd (by intro b hb; have := hr3.lt; omega) (by simp) (by simp)).mono ?_
      rintro e w5 ⟨m, rfl, hm, hd4, hr4⟩
      have hmI : I64 m := by simp at hm; unfold I64; omega
      have hd4 := (Drew.of ((Below.refl w4.heap.size w4).alloc (Nat.le_refl _) _)).tr hd4
      have hF4 := (hd4.fresh hF3 (.inl hlt)).now
      have hd5 := hd.tr hd4
      obtain ⟨⟨u', hu⟩, hfz, _, hF7⟩ := hF4.setL lens_change_kind hd5.size hk' (Below.refl _ _) (show Fresh w5.heap.size w5.heap.size w5 [.int .i64 m] m from Fresh.leaf ⟨rfl, rfl, hmI⟩)
      have hu' : w5.cell? ⟨g2, k * 5, none⟩ = some u' := hu
      have hfz' : w5.frozen? ⟨g2, k * 5, none⟩ = false := hfz
      have hF8 := Rep.mono (S' := fun b => rb < b) (fun b hb => Nat.lt_of_lt_of_le hlt hb) hF7.rd
      clear hu hfz hm
      go_wp2
      go_ret
      exact ⟨_, _, rfl, hSC.set k (c := ⟨m, d[k].path, d[k].dst, d[k].text, d[k].patch⟩) hkS, hF8, hd5.belowB ((Below.refl _ _).setCell hg2 _) (Nat.le_refl _), (hr4.below (B := w.heap.size) hlt ((Below.refl _ _).setCell hg2 _)).mono (by omega)⟩
    · have hq0' := nat_eq_f hq0
      by_cases hq1 : q = 1
      · subst hq1
        obtain ⟨H, rs, hrl, hFX, hA2, hH⟩ := hF3.toRaw
        have hraw := hA2.at k (by omega) hk'
        obtain ⟨g9, off9, us9, e1, _, e3, e4⟩ := (rd_slice_of hFX.fresh.rd).2.elem (i := k) (by omega)
        obtain ⟨rfl, rfl⟩ : g2 = g9 ∧ 0 = off9 := by simpa using e1
        obtain ⟨b3, n3, b4, n4, e5, _⟩ := rd_change hraw
        have e4 : us9 = rs[k].vs := e4
        rw [e5] at e4 hraw
        subst e4
        have c0 := e3 0 _ rfl
        have c1 := e3 1 _ rfl
        have c2 := e3 2 _ rfl
        have c3 := e3 3 _ rfl
        have c4 := e3 4 _ rfl
        rw [show Rep.sz (Raw Change) = 5 from rfl, Nat.zero_add] at c0 c1 c2 c3 c4
        have c0 : w4.cell? ⟨g2, k * 5, none⟩ = some (.int .i64 d[k].kind) := c0
        have hrs : rs.length ≤ 16 := by omega
        have hH2 : ∀ (o : Obj) b, H b → b < (w4.alloc o).heap.size := fun o b hb => by have := (hH b hb).2.2; rw [alloc_szC]; omega
        have hsm : SmC (d ++ [d[k]]) := fun f hf => by
          rcases List.mem_append.1 hf with hf | hf
          · exact hSC f hf
          · rw [List.mem_singleton.1 hf]; exact hkS
        obtain ⟨f, hf⟩ : ∃ f, f = d[k] := ⟨_, rfl⟩
        rw [← hf] at c0 c1 c2 c3 c4 hraw hsm
        have HF := Lib.hid hf
        have HSM := Lib.hid hsm
        clear e3 e5 e1 hf hkS hSC hsm
        go_wp2_with (at_builtin; (refine wpList_app_leafX slz_change.slt.raw rfl (.tmp 32) (.tmp 37) rfl rfl (hFX.alloc _) (hH2 _) (by rw [alloc_szC]; omega) rfl rfl (lit_raw (heap_alloc_new _ _) rfl (one_cells5 _ _ _ _ _ _ _ _ _) (by decide)) (by rw [List.length_singleton]; omega) (by rw [List.length_singleton]; unfold maxLen; omega) ?_); intro a7 c7 w7 hG7)
        have hb7 : Below w.heap.size w4 w7 := ((Below.refl w.heap.size w4).alloc hs3 _).trans hG7.below
        have hA7 : All2 (fun (r : Raw Change) x => Rep.rd (fun b => w.heap.size ≤ b) w7 (Raw.vs r) x) rs d := hA2.mono fun r x h => Rep.frame (fun b hb hl => ⟨po_old hG7 hl (.inr hb), (hH b hb).1⟩) h
        have hN7 : Rep.rd (fun b => w.heap.size ≤ b) w7 [.int .i64 f.kind, .string f.path, .string f.dst, .slice b3 f.text.length n3, .slice b4 f.patch.length n4] f := Rep.mono (fun b hb => hb.1) (Rep.frame (S := H) (S' := fun b => w.heap.size ≤ b ∧ True) (fun b hb hl => ⟨po_old hG7 hl (.inr hb), (hH b hb).1, trivial⟩) hraw)
        have hAll := All2.snoc (a := (⟨[.int .i64 f.kind, .string f.path, .string f.dst, .slice b3 f.text.length n3, .slice b4 f.patch.length n4], rfl, one_cells5 _ _ _ _ _ _ _ _ _⟩ : Raw Change)) (b := f) hA7 hN7
        have hfin : Rep.rd (fun b => w.heap.size ≤ b) w7 [.slice a7 (rs.length + 1) c7] (d ++ [f]) := Rep.mono (fun b hb => by rcases hb with hb | hb; exact hb; exact hb) (hG7.fresh.poRaw hAll)
        rw [hrl] at hfin
        have hfin := Rep.mono (S' := fun b => rb < b) (fun b hb => Nat.lt_of_lt_of_le hlt hb) hfin
        go_ret
        exact ⟨_, _, rfl, HSM.out, hfin, hd.belowB hb7 (Nat.le_refl _), (hr3.below (B := w.heap.size) hlt hb7).mono (by omega)⟩
      · have hq1' := nat_eq_f hq1
        by_cases hq2 : q = 2
        · subst hq2
          go_wp2_with fail
          refine (l30AnyPath_any rb _ _ hr3 (by omega)).mono ?_
          rintro e w5 ⟨s, rfl, hs, hd4, hr4⟩
          have hF4 := (hd4.fresh hF3 (.inl hlt)).now
          have hd5 := hd.tr hd4
          obtain ⟨⟨u', hu⟩, hfz, _, hF7⟩ := hF4.setL lens_change_dst hd5.size hk' (Below.refl _ _) (show Fresh w5.heap.size w5.heap.size w5 [.string s] s from Fresh.leaf ⟨rfl, rfl, by unfold maxLen; omega⟩)
          have hu' : w5.cell? ⟨g2, k * 5 + 2, none⟩ = some u' := hu
          have hfz' : w5.frozen? ⟨g2, k * 5 + 2, none⟩ = false := hfz
          have hF8 := Rep.mono (S' := fun b => rb < b) (fun b hb => Nat.lt_of_lt_of_le hlt hb) hF7.rd
          clear hu hfz
          go_wp2
          go_ret
          exact ⟨_, _, rfl, hSC.set k (c := ⟨d[k].kind, d[k].path, s, d[k].text, d[k].patch⟩) ⟨hkS.1, short_of (s := s) (by omega)⟩, hF8, hd5.belowB ((Below.refl _ _).setCell hg2 _) (Nat.le_refl _), (hr4.below (B := w.heap.size) hlt ((Below.refl _ _).setCell hg2 _)).mono (by omega)⟩
        · have hq2' := nat_eq_f hq2
          have hF8 := Rep.mono (S' := fun b => rb < b) (fun b hb => Nat.lt_of_lt_of_le hlt hb) hF3.rd
          go_wp2
          go_ret
          exact ⟨_, d, rfl, hSC, hF8, hd, hr3.mono (by omega)⟩
  · have hF8 := Rep.mono (S' := fun b => rb < b) (fun b hb => Nat.lt_of_lt_of_le hlt hb) hF.rd
    go_wp2
    go_ret
    exact ⟨_, d, rfl, hSC, hF8, hd, hr.mono (by omega)⟩
/-- a tree and changes drawn -/
def TreeCh (w : World) (e : Ending) (w' : World) : Prop :=
  ∃ (v u : Value) (t : List File) (l : List Change), e = .returned (.tuple #[v, u]) ∧ Sm 400 t ∧ SmC l ∧ rd (fun b => w.heap.size ≤ b) w' [v] t ∧ rd (fun b => w.heap.size ≤ b) w' [u] l ∧ Below w.heap.size w w'
set_option maxHeartbeats 2000000 in
theorem drawChangesDo_any {S : Nat → Prop} (v : Value) (bs : List UInt8) (w : World) (hv : rd S w [v] bs) (hl : bs.length ≤ 1048576) :
    Calls Tryz.prog 6 #[v] w (TreeCh w) := by
  go_enter Tryz.func6, Tryz.ntmps6
  go_wp2_with fail
  refine (l30Open_any v bs w hv hl).mono ?_
  rintro e w1 ⟨rfl, hr, hb, hsz⟩
  go_wp2_with fail
  refine (l30AnyTree_any _ _ _ hr (by omega)).mono ?_
  rintro e w2 ⟨u, t, rfl, hS, ht, hd, hr⟩
  obtain ⟨a2, c2, hu2, _⟩ := rd_slice_elim ht
  subst hu2
  have hs2 := hd.size
  have hSm : Sm 100 t := hS
  have ht9 := Rep.mono (S' := fun b => w.heap.size < b) (fun b hb => by omega) ht
  clear ht
  go_wp2_with fail
  refine (l30Changes_any _ _ _ t _ hr (by omega) ht9 hSm).mono ?_
  rintro e w3 ⟨u3, l, rfl, hSl, hL, hd3, hr3⟩
  obtain ⟨a3, c3, hu3, _⟩ := rd_slice_elim hL
  subst hu3
  have ht := hd3.rdS ht9 (fun b hb => by omega)
  have hd4 := hd.tr hd3
  have hs3 := hd3.size
  clear ht9
  go_wp2_with fail
  refine (pick_any _ _ _ _ hr3 (by omega) (by omega)).mono ?_
  rintro e w4 ⟨q, rfl, _, hd5, hr4⟩
  have ht := hd5.rdS ht (fun b hb => by omega)
  have hL := hd5.rdS hL (fun b hb => by omega)
  have hd6 := hd4.tr hd5
  have hs4 := hd6.size
  by_cases h0 : q = 0
  · subst h0
    go_wp2_with fail
    refine (l30TreeTurn_any _ _ _ t _ hr4 (by omega) ht hSm).mono ?_
    rintro e w5 ⟨u5, t5, rfl, hS5, ht5, hd7, hr5⟩
    obtain ⟨a5, c5, hu5, _⟩ := rd_slice_elim ht5
    subst hu5
    have hL := hd7.rdS hL (fun b hb => by omega)
    have hd8 := hd6.tr hd7
    have hs5 := hd8.size
    have hl9 := hS5.1
    go_wp2_with fail
    refine (l4Copy_wide _ t5 _ ht5 (by omega) (fun f hf => by have := (hS5.2 f hf).2; omega)).mono ?_
    rintro e w6 ⟨u6, rfl, hC, hb6⟩
    have hL := Rep.below hL (Nat.le_refl _) hb6
    obtain ⟨a6, c6, hu6, _⟩ := hC.shape
    subst hu6
    have hBB := hb.trans (hd8.low (Nat.le_refl _) (by omega))
    have hsB := hBB.size
    go_wp2
    go_ret2
    exact ⟨_, _, t5, l, rfl, hS5, hSl, Rep.mono (fun b hb => by omega) hC.rd, Rep.mono (fun b hb => by omega) hL, hBB.trans (hb6.mono hsB)⟩
  · have h0' := nat_eq_f h0
    go_wp2
    go_ret2
    exact ⟨_, _, t, l, rfl, hSm.mono (by omega), hSl, Rep.mono (fun b hb => by omega) ht, Rep.mono (fun b hb => by omega) hL, hb.trans (hd6.low (Nat.le_refl _) (by omega))⟩
end Go.Proofs.YtlaklnpdnohofaaGreatDoor
