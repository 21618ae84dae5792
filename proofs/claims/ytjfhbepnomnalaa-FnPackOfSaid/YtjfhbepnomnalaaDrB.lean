/-
  Walks: whether two packs are one, as the laws ask it. / Walks: drawn lists of texts. / Append of one struct to a slice that is a field of an own slice's element. No program is in sight here. / Walks: drawn packs.
-/
import Derived.Test.YtjfhbepnomnalaaSm
import Derived.Test.YtjfhbepnomnalaaPacked0
import Derived.Test.YtjfhbepnomnalaaDraw5
import Derived.Test.YtjfhbepnomnalaaHlpSS
import Derived.Test.YtjfhbepnomnalaaSetL
import Derived.Test.YtjfhbepnomnalaaPkC
set_option linter.unusedVariables false
namespace Go.Proofs.Ytjfhbepnomnalaa
open Go.RowKit Go.Vc
open Go.Vc.Rep (rd)
open Go.Vc.Own (own)

theorem smDelta_eq {S T : Nat → Prop} (v u : Value) (xs : List Delta) (w : World) (hv : rd S w [v] xs) (hu : rd T w [u] xs) :
    Calls Try.prog 32 #[v, u] w fun e w' => e = .returned (.bool true) ∧ Below w.heap.size w w' :=
  (smDelta_any v u xs xs w hv hu).mono fun e w' h => by
    have e1 : decide (xs = xs) = true := decide_eq_true rfl
    rw [e1] at h
    exact h
theorem smTexts_eq {S T : Nat → Prop} (v u : Value) (xs : List ByteArray) (w : World) (hv : rd S w [v] xs) (hu : rd T w [u] xs) :
    Calls Try.prog 34 #[v, u] w fun e w' => e = .returned (.bool true) ∧ Below w.heap.size w w' :=
  (smTexts_any v u xs xs w hv hu).mono fun e w' h => by
    have e1 : decide (xs = xs) = true := decide_eq_true rfl
    rw [e1] at h
    obtain ⟨h1, n, rfl⟩ := h
    exact ⟨h1, below_drewN (Below.refl _ _) n⟩
set_option maxHeartbeats 1000000 in
theorem smPack_same {S T : Nat → Prop} (v u : Value) (xs : List Packed) (w : World) (hv : rd S w [v] xs) (hu : rd T w [u] xs) :
    Calls Try.prog 56 #[v, u] w fun e w' => e = .returned (.bool true) ∧ Below w.heap.size w w' := by
  obtain ⟨a, cap, rfl, hs⟩ := rd_slice_elim (Rep.lt hv)
  obtain ⟨b, cbp, rfl, ht⟩ := rd_slice_elim (Rep.lt hu)
  have hle := hs.le
  have hn2 : ((xs.length : Int) != xs.length) = false := by simp
  go_enter Try.func56, Try.ntmps56
  go_wp2
  go_loopw [5] (fun i wr => (∃ k : Nat, k ≤ xs.length ∧ i = .int .i64 k) ∧ Below w.heap.size w wr) (fun i _ => xs.length - (intOf i).toNat)
  case atStart => exact ⟨⟨0, by omega, rfl⟩, Below.refl _ _⟩
  case round =>
    obtain ⟨⟨k, hk, rfl⟩, hb⟩ := hrel
    by_cases hlt : k < xs.length
    · obtain ⟨g, off, b1, n1, rfl, hc0, hc1, k0, k1⟩ := (hs.keep hb).packed hlt
      obtain ⟨g', off', b1', n1', rfl, hc0', hc1', k0', k1'⟩ := (ht.keep hb).packed hlt
      have hc0 := BW.cell hc0
      have hc1 := BW.cell hc1
      have hc0' := BW.cell hc0'
      have hc1' := BW.cell hc1'
      have he : (xs[k].base != xs[k].base) = false := by simp
      go_wp2
      refine wp_region_bw (by kernel_rfl) (by kernel_rfl) ?_
      repeat (go_big_quiet_step ((go_at_call 32; exact Calls.bw (smDelta_eq _ _ _ _ (k1.bw _).rd (k1'.bw _).rd))))
      refine wpQuiet_nil ?_
      rintro w1 ⟨⟨_, hbw⟩, rfl⟩
      go_wp2
      go_roundw
      case rel => exact ⟨⟨k + 1, by omega, by go_num⟩, hb.trans (hbw.mono hb.size)⟩
      case measure => simp [intOf]; omega
    · go_wp2
      go_ret
      exact ⟨rfl, hb⟩
end Go.Proofs.Ytjfhbepnomnalaa
namespace Go.Proofs.Ytjfhbepnomnalaa
open Go.RowKit Go.Vc
open Go.Vc.Rep (rd)
open Go.Vc.Own (own)

/-- a few texts, not too long -/
def FewT (n : Nat) (xs : List (List ByteArray)) : Prop := xs.length ≤ n ∧ ∀ t, t ∈ xs → t.length ≤ 18
theorem FewT.add {n : Nat} {xs : List (List ByteArray)} {t : List ByteArray} (h : FewT n xs) (ht : t.length ≤ 18) : FewT (n + 1) (xs ++ [t]) :=
  ⟨by simp; exact h.1, fun y hy => by
    rcases List.mem_append.1 hy with hy | hy
    · exact h.2 y hy
    · simp at hy; rw [hy]; exact ht⟩

set_option maxHeartbeats 4000000 in
set_option maxRecDepth 100000 in
theorem l30Texts_any (rb N : Nat) (w : World) (h : RdOk w rb N) (hN : N ≤ 980000) :
    Calls Try.prog 85 #[.pointer (some ⟨rb, 0, none⟩)] w fun e w' => ∃ (v : Value) (xs : List (List ByteArray)), e = .returned v ∧ FewT 13 xs ∧ Fresh w.heap.size w'.heap.size w' [v] xs ∧ Drew rb w w' ∧ RdOk w' rb (N + 500) := by
  have hlt := h.lt
  go_enter Try.func85, Try.ntmps85
  go_wp2_with fail
  refine (l30Text_any rb N _ (h.alloc _) (by omega)).mono ?_
  rintro e w1 ⟨v, t0, rfl, ht0, hT0, hd1, hr1⟩
  have hF0 := hd1.fresh (Fresh.empty (β := List ByteArray) (by decide) w.heap.size w (Nat.le_refl _)) (.inl hlt)
  have hd1' := (Drew.of (rb := rb) ((Below.refl w.heap.size w).alloc (Nat.le_refl _) (.cells #[] 29))).tr hd1
  go_wp2_with fail
  refine (one_any (S := fun b => b = w1.heap.size) rb (N + 20) _ [0, 2, 5, 12, 13] _ (hr1.alloc _) (by omega)
    (lit_ints _ (heap_alloc_new _ _) (by intro s hs; simp at hs; unfold I64; omega) (by decide)).rd (by intro b hb; have := hr1.lt; omega) (by decide) (by decide)).mono ?_
  rintro e w2 ⟨s, rfl, hs, hd2, hr2⟩
  obtain ⟨k, rfl, hk⟩ : ∃ k : Nat, s = (k : Int) ∧ k ≤ 13 := ⟨s.toNat, by simp at hs; omega, by simp at hs; omega⟩
  have hF2 := hd2.fresh (hF0.alloc (.cells #[.int .i64 0, .int .i64 2, .int .i64 5, .int .i64 12, .int .i64 13] 3)) (.inl hlt)
  have hT2 := (hd2.fresh (hT0.alloc (.cells #[.int .i64 0, .int .i64 2, .int .i64 5, .int .i64 12, .int .i64 13] 3)) (.inl (by simp; omega))).now
  have hd3 := (hd1'.tr (Drew.of ((Below.refl _ _).alloc (Nat.le_refl _) (.cells #[.int .i64 0, .int .i64 2, .int .i64 5, .int .i64 12, .int .i64 13] 3)))).tr hd2
  have hm2 : (w.alloc (.cells #[] 29)).heap.size ≤ w2.heap.size := by have h1 := hd1.size; have h2 := hd2.size; simp at h1 h2 ⊢; omega
  clear hs hd2 hd1' hF0 hT0 hr1
  go_wp2
  go_loopw [3, 4, 5] (fun out t n wr => (∃ (m k : Nat) (xs : List (List ByteArray)) (tl : List ByteArray), n = .int .i64 k ∧ FewT (13 - k) xs ∧ k ≤ 13 ∧ tl.length ≤ 18 ∧ w.heap.size ≤ m ∧ m ≤ wr.heap.size ∧ Fresh w.heap.size m wr [out] xs ∧ Fresh m wr.heap.size wr [t] tl ∧ RdOk wr rb (N + 21 + 30 * (13 - k))) ∧ Drew rb w wr) (fun _ _ n _ => (intOf n).toNat)
  case atStart => exact ⟨⟨(w.alloc (.cells #[] 29)).heap.size, k, [], t0, rfl, ⟨by simp, fun t ht => by cases ht⟩, hk, by omega, by simp, hm2, by have := hF2; simpa using this, hT2, hr2.mono (by omega)⟩, hd3⟩
  case round =>
    clear hr2 hd3 hF2 hT2 hd1
    obtain ⟨⟨m, k, xs, tl, rfl, hfew, hk, htl, hwm, hmw, hF, hT, hr⟩, hd⟩ := hrel
    have hsz := hd.size
    obtain ⟨ao, co, rfl, _⟩ := hF.shape
    obtain ⟨att, ct, rfl, _⟩ := hT.shape
    have hsT := (rd_slice_of hT.rd2).2
    by_cases hlt2 : 0 < k
    · have hxl := hfew.1
      have hby : (xs.length + 1) * 24 ≤ 140737488355328 := by omega
      have hmx : xs.length + 1 ≤ maxLen := by unfold maxLen; omega
      go_wp2_with (first
        | (at_builtin; (refine wpList_app_leaf slz_string.slt rfl (.tmp 17) (.tmp 18) rfl rfl (Fresh.empty (by decide) wr.heap.size wr (Nat.le_refl _)) (le_alloc (Nat.le_refl _) _) rfl rfl (hsT.alloc _) (by simp <;> omega) (by unfold maxLen; simp <;> omega) ?_); intro a5 c5 w5 hG5; have hb5 := ((Below.refl wr.heap.size wr).alloc (Nat.le_refl _) (.cells #[] 9)).trans hG5.below; have hC5 := (show Fresh wr.heap.size w5.heap.size w5 [.slice a5 tl.length c5] tl from (by have := hG5.fresh; simpa using this)); have hF5 := hF.belowm (Nat.le_trans hmw (Nat.le_refl _)) hb5; have hT5 := hT.belowm (Nat.le_refl _) hb5; have hsz5 := hb5.size)
        | (at_builtin; go_must (refine wpList_app_one slz_SS.slt rfl (.tmp 16) (.tmp 20) rfl rfl (hF5.alloc _) (by simp <;> omega) rfl (heap_alloc_new _ _) ((hC5.mono hmw (Nat.le_refl _)).alloc _) hwm hby hmx ?_); intro a6 c6 w6 hG6))
      have hT6 := (hT5.alloc (.cells #[.slice a5 tl.length c5] 29)).keep (w' := w6) (fun b h1 h2 h3 => hG6.rest b h3 (.inr h1))
      have hb6 : Below w.heap.size wr w6 := (hb5.mono hsz).trans (((Below.refl _ _).alloc (by omega) (.cells #[.slice a5 tl.length c5] 29)).trans hG6.below)
      have hr6 := hr.below hlt hb6
      have hsz6 := hb6.size
      refine (l30Turn_any rb _ _ tl _ hr6 (by omega) hT6.rd htl).mono ?_
      rintro e w7 ⟨v7, t7, rfl, ht7, hT7, hd7, hr7⟩
      have hF7 := hd7.fresh hG6.fresh (.inl hlt)
      have hd8 := (hd.belowB hb6 (Nat.le_refl _)).tr hd7
      have hsz7 := hd7.size
      go_wp2
      go_roundw
      case rel => exact ⟨⟨w6.heap.size, k - 1, xs ++ [tl], t7, by go_num, by have := hfew.add htl; rw [show 13 - (k - 1) = 13 - k + 1 by omega]; exact this, by omega, ht7, by omega, hsz7, hF7, hT7, hr7.mono (by omega)⟩, hd8⟩
      case measure => simp [intOf]; omega
    · go_wp2
      go_ret
      exact ⟨_, xs, rfl, ⟨by have := hfew.1; omega, hfew.2⟩, hF.mono (Nat.le_refl _) hmw, hd, hr.mono (by omega)⟩

/-- a list of texts drawn -/
def DrawnTexts (w : World) (e : Ending) (w' : World) : Prop :=
  ∃ (v : Value) (xs : List (List ByteArray)), e = .returned v ∧ FewT 14 xs ∧ rd (fun b => w.heap.size ≤ b) w' [v] xs ∧ Below w.heap.size w w'

set_option maxHeartbeats 2000000 in
theorem drawPackOf_any {S : Nat → Prop} (v : Value) (bs : List UInt8) (w : World) (hv : rd S w [v] bs) (hl : bs.length ≤ 1048576) :
    Calls Try.prog 55 #[v] w (DrawnTexts w) := by
  go_enter Try.func55, Try.ntmps55
  go_wp2_with fail
  refine (l30Open_any v bs w hv hl).mono ?_
  rintro e w1 ⟨rfl, hr, hb, hsz⟩
  go_wp2_with fail
  refine (l30Texts_any _ _ _ hr (by omega)).mono ?_
  rintro e w2 ⟨v, xs, rfl, hx, hF, hd, hr⟩
  have hsz2 := hd.size
  go_wp2_with fail
  refine (pick_any _ _ _ _ hr (by omega) (by omega)).mono ?_
  rintro e w3 ⟨k, rfl, hk, hd3, hr3⟩
  have hF3 := (hd3.fresh hF (.inl (by omega))).now
  have hd4 := hd.tr hd3
  have hsz3 := hd3.size
  by_cases h0 : k = 0
  · subst h0
    go_wp2_with fail
    refine (l30AnyText_any _ _ _ hr3 (by omega)).mono ?_
    rintro e w4 ⟨u, ys, rfl, hy, hG, hd5, hr5⟩
    have hF5 := hd5.fresh hF3 (.inl (by omega))
    have hd6 := hd4.tr hd5
    have hsz5 := hd6.size
    obtain ⟨ao, co, rfl, _⟩ := hF5.shape
    obtain ⟨au, cu, rfl, _⟩ := hG.shape
    have hxl := hx.1
    go_wp2_with (at_builtin; go_must (refine wpList_app_one slz_SS.slt rfl (.tmp 12) (.tmp 15) rfl rfl (hF5.alloc _) (by simp <;> omega) rfl (heap_alloc_new _ _) (hG.alloc _) (by have := hd4.size; omega) (by omega) (by unfold maxLen; omega) ?_); intro a6 c6 w6 hG6)
    go_ret
    have hbb : Below w.heap.size w w4 := hb.trans (hd6.low (Nat.le_refl _) (by omega))
    exact ⟨_, xs ++ [ys], rfl, hx.add hy, Rep.mono (fun b hb => by omega) hG6.fresh.rd, (hbb.alloc hbb.size _).trans (hG6.below.mono (by omega))⟩
  · have h0' := nat_eq_f h0
    go_wp2
    go_ret
    exact ⟨v, xs, rfl, ⟨by have := hx.1; omega, hx.2⟩, Rep.mono (fun b hb => by omega) hF3.rd, hb.trans (hd4.low (Nat.le_refl _) (by omega))⟩
end Go.Proofs.Ytjfhbepnomnalaa
namespace Go.Vc
open Go.RowKit
open Rep (rd)
open Own (own)

section
variable {P : Program} {w : World} {α β : Type} [Own α] [Tid α] [Own β] [Tid β]
/-- 'append(out[i].field, ys...)', and the store of what it gives -/
theorem run_app_lens0 {f : Nat} {get : α → List β} {put : α → List β → α} (L : Lens α (List β) f get put) {t ty : TypeId} {bytes : Nat} (T : SlT P t β bytes) {B m g n cap : Nat} {xs : List α}
    (h : Fresh B m w [.slice (some ⟨g, 0, none⟩) n cap] xs) (hB : B ≤ w.heap.size) {i : Nat} (hi : i < xs.length) {al : Option Addr} {nl cl : Nat} (hcell : w.cell? ⟨g, i * Rep.sz α + f, none⟩ = some (.slice al nl cl))
    {a : Option Addr} {c : Nat} {ys : List β} {ns : List (List Value)} {Gs : List (List Nat)} (hsrc : CellsAt w a ns.flatten) (hall : ownAll w Gs ns ys) (hG : Gs.flatten = []) (hbytes : ((get xs[i]).length + ys.length) * bytes ≤ 140737488355328) (h63 : (get xs[i]).length + ys.length ≤ maxLen) :
    ∃ a' c' w1, (Builtin.append_ #[t, t] ty #[.slice al nl cl, .slice a ys.length c]).run P w = .ok (.slice a' (nl + ys.length) c') w1 ∧ nl = (get xs[i]).length ∧
      (∃ u, w1.cell? ⟨g, i * Rep.sz α + f, none⟩ = some u) ∧ w1.frozen? ⟨g, i * Rep.sz α + f, none⟩ = false ∧ Below B w w1 ∧ B ≤ g ∧
      Fresh B (w1.setCell ⟨g, i * Rep.sz α + f, none⟩ (.slice a' (nl + ys.length) c')).heap.size (w1.setCell ⟨g, i * Rep.sz α + f, none⟩ (.slice a' (nl + ys.length) c')) [.slice (some ⟨g, 0, none⟩) n cap] (xs.set i (put xs[i] (get xs[i] ++ ys))) := by
  obtain ⟨F, ho, hn, hb⟩ := h
  obtain ⟨ce, Fi, hoi, hsub, hnFi, hgFi, hgF, hcells, hfz, hfoc⟩ := own_focus ho hn hi
  obtain ⟨hf, hL⟩ := L
  obtain ⟨F1, Fl, F2, lv, hlv, rfl, hol, hput⟩ := hL Fi w ce xs[i] hoi
  have hlv' : lv = .slice al nl cl := by
    have := hcells f lv hlv
    rw [hcell] at this
    simp at this
    exact this.symm
  subst hlv'
  have hnl : nl = (get xs[i]).length := (rd_slice_of (Own.rd_of hol)).1
  obtain ⟨hn1, hn23, hd1⟩ := List.nodup_append.1 hnFi
  obtain ⟨hnl', hn2, hd2⟩ := List.nodup_append.1 hn23
  obtain ⟨v', w1, Fl', hr, ho', hn', hg, hF'⟩ := run_app (P := P) (ty := ty) T hol (a := a) (c := c) rfl hsrc hall (by rw [hG, List.append_nil]; exact hnl') hbytes h63
  obtain ⟨a', c', rfl, _⟩ := rd_slice_elim (Own.rd_of ho')
  rw [List.length_append, ← hnl] at hr ho'
  have hbl : ∀ b, (Value.slice al nl cl).ownBlock = some b → b ∈ Fl := own_ownBlock hol
  have hF'' : ∀ b, b ∈ Fl' → b ∈ Fl ∨ w.heap.size ≤ b := fun b hb => by
    rcases hF' b hb with h | h | h
    · exact .inl h
    · rw [hG] at h; cases h
    · exact .inr h
  have hglt : g < w.heap.size := World.block_lt_of_cell? w _ hcell
  have hgb : w1.heap[g]? = w.heap[g]? := hg.block g hglt fun e => hgFi (by simp [hbl g e.symm])
  have hltF : ∀ b, b ∈ F1 ++ (Fl ++ F2) → b < w.heap.size := Own.lt hoi
  refine ⟨a', c', w1, hr, hnl, ⟨_, by rw [World.cell?_of_block (w := w) hgb]; exact hcell⟩, by rw [World.frozen?_of_block (w := w) hgb]; exact hfz _, (Below.refl B w).grown hg hB fun k hk => (hb k (hsub k (by simp [hbl k hk]))).1, (hb g hgF).1, ?_⟩
  have hol' : own Fl' (w1.setCell ⟨g, i * Rep.sz α + f, none⟩ (.slice a' (nl + ys.length) c')) [.slice a' (nl + ys.length) c'] (get xs[i] ++ ys) :=
    Own.oframe (fun b hbm => Below.heap_setCell w1 _ _ b fun e => by
      simp only at e
      subst e
      rcases hF'' b hbm with h | h
      · exact hgFi (by simp [h])
      · omega) ho'
  have hkeep : ∀ b, b ∈ F1 ++ F2 → (w1.setCell ⟨g, i * Rep.sz α + f, none⟩ (.slice a' (nl + ys.length) c')).heap[b]? = w.heap[b]? := fun b hbm => by
    have hbF : b ∈ F1 ++ (Fl ++ F2) := by
      rcases List.mem_append.1 hbm with h | h
      · exact List.mem_append.2 (.inl h)
      · exact List.mem_append.2 (.inr (List.mem_append.2 (.inr h)))
    rw [Below.heap_setCell w1 _ _ b fun e => hgFi (by simp only at e; rw [← e]; exact hbF)]
    refine hg.block b (hltF b hbF) fun e => ?_
    have hbl' := hbl b e.symm
    rcases List.mem_append.1 hbm with h | h
    · exact hd1 b h b (List.mem_append.2 (.inl hbl')) rfl
    · exact hd2 b hbl' b h rfl
  have hfl' : ∀ b, b ∈ Fl' → b ∉ F1 ∧ b ∉ F2 := fun b hbm => by
    rcases hF'' b hbm with h | h
    · exact ⟨fun h1 => hd1 b h1 b (List.mem_append.2 (.inl h)) rfl, fun h1 => hd2 b h b h1 rfl⟩
    · exact ⟨fun h1 => by have := hltF b (List.mem_append.2 (.inl h1)); omega, fun h1 => by have := hltF b (List.mem_append.2 (.inr (List.mem_append.2 (.inr h1)))); omega⟩
  have hlce : ce.length = Rep.sz α := Rep.len (Own.rd_of hoi)
  obtain ⟨FF, hoF, hnF, hFF⟩ := hfoc _ (ce.set f (.slice a' (nl + ys.length) c')) (put xs[i] (get xs[i] ++ ys)) (F1 ++ (Fl' ++ F2)) (hput _ Fl' _ _ hkeep hol')
    (List.nodup_append.2 ⟨hn1, List.nodup_append.2 ⟨hn', hn2, fun a ha b hbb e => (hfl' a ha).2 (e ▸ hbb)⟩, fun a ha b hbb e => by
      subst e
      rcases List.mem_append.1 hbb with h | h
      · exact (hfl' a h).1 ha
      · exact hd1 a ha a (List.mem_append.2 (.inr h)) rfl⟩)
    (fun b hbm => by
      rcases List.mem_append.1 hbm with h | h
      · exact .inl (List.mem_append.2 (.inl h))
      · rcases List.mem_append.1 h with h | h
        · rcases hF'' b h with h | h
          · exact .inl (List.mem_append.2 (.inr (List.mem_append.2 (.inl h))))
          · exact .inr h
        · exact .inl (List.mem_append.2 (.inr (List.mem_append.2 (.inr h)))))
    (fun b hbl2 hbF hbg => by
      rw [Below.heap_setCell w1 _ _ b hbg]
      exact hg.block b hbl2 fun e => hbF (List.mem_append.2 (.inr (List.mem_append.2 (.inl (hbl b e.symm))))))
    (fun cur e hgc => by
      have hgc1 : w1.heap[g]? = some (.cells cur e (0, 0)) := hgb.trans hgc
      refine ⟨_, heap_setCell_same w1 g _ cur e _ hgc1, by simp, fun j hj => ?_, fun j hj => ?_⟩
      · by_cases hjf : j = f
        · subst hjf
          have hlt : i * Rep.sz α + j < cur.size := by
            have := hcell
            rw [cell_of_row w g _ cur e (0, 0) hgc] at this
            exact (Array.getElem?_eq_some_iff.1 this).1
          rw [Array.getElem?_setIfInBounds_self_of_lt hlt, List.getElem?_set_self (by omega)]
        · rw [Array.getElem?_setIfInBounds_ne (by omega), List.getElem?_set_ne (by omega)]
          have hjc : ce[j]? = some (ce[j]'(by omega)) := List.getElem?_eq_getElem _
          have := hcells j _ hjc
          rw [cell_of_row w g _ cur e (0, 0) hgc] at this
          rw [this, hjc]
      · rw [Array.getElem?_setIfInBounds_ne (by omega)])
  exact ⟨FF, hoF, hnF, fun b hbm => ⟨by
    rcases hFF b hbm with h | h
    · exact (hb b h).1
    · omega, Own.lt hoF b hbm⟩⟩
end

section
variable {P : Program} {ops : Array Oper} {rest : List Oper} {o : Oper} {a : Act} {w : World} {Q : Exit → Act → World → Prop} {α β : Type} [Own α] [Tid α] [Own β] [Tid β]
/-- the walk's arm at 'append(out[i].field, y)', y a value without memory of its own -/
theorem wpList_app_lens1 {f : Nat} {get : α → List β} {put : α → List β → α} (L : Lens α (List β) f get put) {t : TypeId} {bytes : Nat} (T : SlT P t β bytes) (hgd : o.guard = none) (s x : Operand) (ho : o.op = Op.call { callee := Callee.builtin Builtin.append, args := #[s, x], argTypes := #[t, t] })
    {B m g n cap : Nat} {xs : List α} (h : Fresh B m w [.slice (some ⟨g, 0, none⟩) n cap] xs) (hB : B ≤ w.heap.size) {i : Nat} (hi : i < xs.length) {al : Option Addr} {nl cl : Nat} (hs : a.eval s = .slice al nl cl)
    (hcell : w.cell? ⟨g, i * Rep.sz α + f, none⟩ = some (.slice al nl cl))
    {gr c : Nat} {cs : List Value} {e : TypeId} {y : β} (hx : a.eval x = .slice (some ⟨gr, 0, none⟩) 1 c) (hg : w.heap[gr]? = some (.cells cs.toArray e (0, 0))) (hy : own [] w cs y)
    (hbytes : ((get xs[i]).length + 1) * bytes ≤ 140737488355328) (h63 : (get xs[i]).length + 1 ≤ maxLen)
    (hK : ∀ a' c' w1, (∃ u, w1.cell? ⟨g, i * Rep.sz α + f, none⟩ = some u) → w1.frozen? ⟨g, i * Rep.sz α + f, none⟩ = false → Below B w w1 → B ≤ g →
      Fresh B (w1.setCell ⟨g, i * Rep.sz α + f, none⟩ (.slice a' (nl + 1) c')).heap.size (w1.setCell ⟨g, i * Rep.sz α + f, none⟩ (.slice a' (nl + 1) c')) [.slice (some ⟨g, 0, none⟩) n cap] (xs.set i (put xs[i] (get xs[i] ++ [y]))) →
      wpList P ops Q rest (a.put o.dst (.slice a' (nl + 1) c')) w1) : wpList P ops Q (o :: rest) a w := by
  refine wpList_plain hgd fun K hKK => ?_
  have hsrc : CellsAt w (some ⟨gr, 0, none⟩) ([cs] : List (List Value)).flatten := by
    refine .inr ⟨_, rfl, fun j u hu => ?_⟩
    rw [addr_add, Nat.zero_add, cell_of_row w gr j _ e (0, 0) hg]
    simpa using hu
  obtain ⟨a', c', w1, hr, _, h1, h2, h3, h4, h5⟩ := run_app_lens0 (P := P) (ty := o.type) L T h hB hi hcell (c := c) (ys := [y]) (ns := [cs]) (Gs := [[]]) hsrc ⟨hy, trivial⟩ rfl hbytes h63
  unfold Oper.wp execOp
  simp only [List.length_singleton] at hr
  simp only [ho, resolve, invoke, builtin, Sem.run_bind, Sem.run_pure, Result.andThen_ok, List.map_toArray, List.map_cons, List.map_nil, hs, hx, hr]
  exact hKK _ _ (hK a' c' w1 h1 h2 h3 h4 h5)
end
end Go.Vc
namespace Go.Proofs.Ytjfhbepnomnalaa
open Go.RowKit Go.Vc
open Go.Vc.Rep (rd)
open Go.Vc.Own (own)

theorem packOf_len (l : List (List ByteArray)) : (packOf l).length ≤ 12 := (packB_of (packOf_packB l)).2
theorem packOf_pcs (l : List (List ByteArray)) {k : Nat} (hk : k < (packOf l).length) : (packOf l)[k].pcs.length ≤ 10 := deltaB_len ((packB_of (packOf_packB l)).1 k hk |>.1 hk).2.2
theorem piece91 (w : World) : own [] w [.int .i64 9, .int .i64 1, .slice none 0 0] (⟨9, 1, []⟩ : Delta) :=
  ⟨[_], [_, _], [], [], rfl, rfl, ⟨rfl, rfl, show I64 9 by unfold I64; omega⟩, [_], [_], [], [], rfl, rfl, ⟨rfl, rfl, show I64 1 by unfold I64; omega⟩, _, [], [], rfl, World.ownsRow_nil _ _ _ _, rfl, trivial, Nat.one_pos⟩

set_option maxHeartbeats 4000000 in
set_option maxRecDepth 100000 in
theorem l30Pack_any (rb N : Nat) (w : World) (h : RdOk w rb N) (hN : N ≤ 970000) :
    Calls Try.prog 79 #[.pointer (some ⟨rb, 0, none⟩)] w fun e w' => ∃ (v : Value) (xs : List Packed), e = .returned v ∧ xs.length ≤ 12 ∧ Fresh w.heap.size w'.heap.size w' [v] xs ∧ Drew rb w w' ∧ RdOk w' rb (N + 510) := by
  have hlt := h.lt
  go_enter Try.func79, Try.ntmps79
  go_wp2_with fail
  refine (l30Texts_any rb N _ h (by omega)).mono ?_
  rintro e w1 ⟨v, xs, rfl, hx, hF, hd1, hr1⟩
  go_wp2_with fail
  refine (specPackOf v xs w1 hF.rd).mono ?_
  rintro e w2 ⟨p, rfl, hP, hb2⟩
  have hd2 := hd1.below hb2
  have hr2 := hr1.below hr1.lt hb2
  have hpl := packOf_len xs
  have HPC := Lib.hid (fun (k : Nat) (hk : k < (packOf xs).length) => packOf_pcs xs hk)
  obtain ⟨ps, hps⟩ : ∃ ps, packOf xs = ps := ⟨_, rfl⟩
  rw [hps] at hP hpl HPC
  clear hps hb2 hr1 hF
  have hP : Fresh w.heap.size w2.heap.size w2 [p] ps := hP.mono hd1.size (Nat.le_refl _)
  obtain ⟨ap, cp, rfl, _⟩ := hP.shape
  by_cases hl0 : 0 < ps.length
  · have hl0' : decide (0 < ps.length) = true := decide_eq_true hl0
    go_wp2_with fail
    refine (pick_any rb _ _ _ hr2 (by omega) (by omega)).mono ?_
    rintro e w3 ⟨k, rfl, hk, hd3, hr3⟩
    have hkl : k < ps.length := by omega
    have hP3 := (hd3.fresh hP (.inl hlt)).now
    have hd4 := hd2.tr hd3
    go_wp2_with fail
    refine (pick_any rb _ _ _ hr3 (by omega) (by omega)).mono ?_
    rintro e w4 ⟨q, rfl, hq, hd5, hr5⟩
    have hP5 := (hd5.fresh hP3 (.inl hlt)).now
    have hd6 := hd4.tr hd5
    have hsz6 := hd6.size
    obtain ⟨g, rfl, hg1, hg2⟩ := hP5.addr hl0
    clear hk hP hP3 hd2 hd3 hd4 hd5 hr2 hr3
    by_cases h0 : q = 0
    · subst h0
      go_wp2_with fail
      refine (one_any (S := fun b => b = w4.heap.size) rb _ _ [-2, k, 0] _ (hr5.alloc _) (by omega)
        (lit_ints _ (heap_alloc_new _ _) (by intro s hs; simp at hs; unfold I64; omega) (by unfold maxLen; simp)).rd (by intro b hb; have := hr5.lt; omega) (by simp) (by simp)).mono ?_
      rintro e w6 ⟨s, rfl, hs, hd7, hr7⟩
      have hsi : I64 s := by simp at hs; unfold I64; omega
      have hP7 := (hd7.fresh (hP5.alloc (.cells #[.int .i64 (-2), .int .i64 k, .int .i64 0] 3)) (.inl hlt)).now
      have hd8 := (hd6.tr (Drew.of ((Below.refl _ _).alloc (Nat.le_refl _) (.cells #[.int .i64 (-2), .int .i64 k, .int .i64 0] 3)))).tr hd7
      have hsz8 := hd8.size
      obtain ⟨⟨u', hu⟩, hfz, _, hF9⟩ := hP7.setL lens_packed_base hsz8 hkl (Below.refl _ _) (Fresh.int (m := w6.heap.size) hsi)
      have hu' : w6.cell? ⟨g, k * 2, none⟩ = some u' := hu
      have hfz' : w6.frozen? ⟨g, k * 2, none⟩ = false := hfz
      clear hu hfz hs
      go_wp2
      go_ret
      refine ⟨_, _, rfl, ?_, hF9, hd8.belowB ((Below.refl _ _).setCell hg1 _) (Nat.le_refl _), (hr7.below (B := w.heap.size) hlt ((Below.refl _ _).setCell hg1 _)).mono (by omega)⟩
      simp; omega
    · have h0' := nat_eq_f h0
      by_cases h1 : q = 1
      · subst h1
        obtain ⟨gg, off, a1, c1, hgg, hc0, hc1, hi0, hl1⟩ := ((rd_slice_of hP5.rd2).2).packed hkl
        obtain ⟨rfl, rfl⟩ : gg = g ∧ off = 0 := by simp at hgg; exact ⟨hgg.1.symm, hgg.2.symm⟩
        rw [Nat.zero_add] at hc0 hc1
        have hpc := HPC.out k hkl
        have hc1a := keepc hc1 ((Below.refl w4.heap.size w4).alloc (Nat.le_refl _) (.cells #[.int .i64 9, .int .i64 1, .slice none 0 0] 43))
        clear hgg
        go_wp2_with (at_builtin; go_must (refine wpList_app_lens1 lens_packed_pcs slz_delta.slt rfl (.tmp 35) (.tmp 37) rfl (hP5.alloc _) (le_alloc hsz6 _) hkl rfl hc1a rfl (heap_alloc_new _ _) (piece91 _) (by show (ps[k].pcs.length + 1) * 40 ≤ _; omega) (by unfold maxLen; show ps[k].pcs.length + 1 ≤ _; omega) ?_); intro a6 c6 w6 hu hfz hb6 hg6 hF6; obtain ⟨u', hu⟩ := hu; have hu' : w6.cell? ⟨gg, k * 2 + 1, none⟩ = some u' := hu; have hfz' : w6.frozen? ⟨gg, k * 2 + 1, none⟩ = false := hfz; clear hu hfz)
        have hbb : Below w.heap.size w4 w6 := ((Below.refl _ _).alloc hsz6 (.cells #[.int .i64 9, .int .i64 1, .slice none 0 0] 43)).trans hb6
        go_ret
        refine ⟨_, _, rfl, ?_, hF6, hd6.belowB (hbb.setCell hg1 _) (Nat.le_refl _), (hr5.below (B := w.heap.size) hlt (hbb.setCell hg1 _)).mono (by omega)⟩
        simp; omega
      · have h1' := nat_eq_f h1
        go_wp2
        go_ret
        exact ⟨_, ps, rfl, hpl, hP5, hd6, hr5.mono (by omega)⟩
  · have hl0' : decide (0 < ps.length) = false := decide_eq_false hl0
    go_wp2
    go_ret
    exact ⟨_, ps, rfl, hpl, hP, hd2, hr2.mono (by omega)⟩

def DrawnPack (w : World) (e : Ending) (w' : World) : Prop :=
  ∃ (v : Value) (xs : List Packed), e = .returned v ∧ xs.length ≤ 12 ∧ rd (fun b => w.heap.size ≤ b) w' [v] xs ∧ Below w.heap.size w w'
def DrawnPackGet (w : World) (e : Ending) (w' : World) : Prop :=
  ∃ (v : Value) (xs : List Packed) (k : Int), e = .returned (.tuple #[v, .int .i64 k]) ∧ xs.length ≤ 12 ∧ -1 ≤ k ∧ k ≤ 100 ∧ rd (fun b => w.heap.size ≤ b) w' [v] xs ∧ Below w.heap.size w w'

set_option maxHeartbeats 2000000 in
theorem drawPackSize_any {S : Nat → Prop} (v : Value) (bs : List UInt8) (w : World) (hv : rd S w [v] bs) (hl : bs.length ≤ 1048576) :
    Calls Try.prog 46 #[v] w (DrawnPack w) := by
  go_enter Try.func46, Try.ntmps46
  go_wp2_with fail
  refine (l30Open_any v bs w hv hl).mono ?_
  rintro e w1 ⟨rfl, hr, hb, hsz⟩
  go_wp2_with fail
  refine (l30Pack_any _ _ _ hr (by omega)).mono ?_
  rintro e w2 ⟨v, xs, rfl, hx, hF, hd, hr⟩
  go_wp2
  go_ret
  exact ⟨v, xs, rfl, hx, Rep.mono (fun b hb => by omega) hF.rd, hb.trans (hd.low (Nat.le_refl _) (by omega))⟩

set_option maxHeartbeats 2000000 in
theorem drawPackGet_any {S : Nat → Prop} (v : Value) (bs : List UInt8) (w : World) (hv : rd S w [v] bs) (hl : bs.length ≤ 1048576) :
    Calls Try.prog 41 #[v] w (DrawnPackGet w) := by
  go_enter Try.func41, Try.ntmps41
  go_wp2_with fail
  refine (l30Open_any v bs w hv hl).mono ?_
  rintro e w1 ⟨rfl, hr, hb, hsz⟩
  go_wp2_with fail
  refine (l30Pack_any _ _ _ hr (by omega)).mono ?_
  rintro e w2 ⟨v, xs, rfl, hx, hF, hd, hr⟩
  obtain ⟨ap, cp, rfl, _⟩ := hF.shape
  have hsz2 := hd.size
  go_wp2_with fail
  refine (pick_any _ _ _ _ hr (by omega) (by omega)).mono ?_
  rintro e w3 ⟨k, rfl, hk, hd3, hr3⟩
  have hF3 := hd3.fresh hF (.inl (by omega))
  have hd4 := hd.tr hd3
  have hkk : k ≤ 13 := by omega
  clear hk
  go_wp2
  go_ret2
  exact ⟨_, xs, (k : Int) - 1, rfl, hx, by omega, by omega, Rep.mono (fun b hb => by omega) hF3.rd, hb.trans (hd4.low (Nat.le_refl _) (by omega))⟩
end Go.Proofs.Ytjfhbepnomnalaa
