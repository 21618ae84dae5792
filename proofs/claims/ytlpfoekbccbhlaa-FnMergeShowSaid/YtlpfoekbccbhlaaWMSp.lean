/-
  Walks: what a merge shows, as the reference has it.
-/
import Derived.Test.YtlpfoekbccbhlaaWMSh
set_option linter.unusedVariables false
namespace Go.Proofs.Ytlpfoekbccbhlaa
open Go.RowKit Go.Vc
open Go.Vc.Rep (rd)
open Go.Vc.Own (own)

set_option maxHeartbeats 16000000 in
set_option maxRecDepth 100000 in
theorem specMergeShow {S T U : Nat → Prop} (v u x : Value) (o a b : List ByteArray) (w : World) (hv : rd S w [v] o) (hu : rd T w [u] a) (hx : rd U w [x] b) :
    Calls Try.prog 8 #[v, u, x] w fun e w' => ∃ v', e = .returned v' ∧ Fresh w.heap.size w'.heap.size w' [v'] (mShow o a b) ∧ Below w.heap.size w w' := by
  have hv := Rep.lt hv
  have hu := Rep.lt hu
  have hx := Rep.lt hx
  have HD : Hid (mShow o a b = showF (mOf o a b)) := rfl
  obtain ⟨hpl, hsm⟩ := mOf_len o a b
  go_enter Try.func8, Try.ntmps8
  go_wp2_with fail
  refine (specMergeOf _ _ _ o a b _ (Rep.alloc hv _) (Rep.alloc hu _) (Rep.alloc hx _)).mono ?_
  rintro e wm ⟨vm, rfl, hM, hbm⟩
  obtain ⟨P, hP⟩ : ∃ P, P = mOf o a b := ⟨_, rfl⟩
  rw [← hP] at hM hsm HD hpl
  clear hP
  have hMr := hM.rd2
  obtain ⟨am, cm, rfl, hMs⟩ := rd_slice_elim hMr
  have hszm := hbm.size
  simp at hszm
  have hE0 : FS (fun b => b = w.heap.size ∨ wm.heap.size ≤ b) wm [.slice (some ⟨w.heap.size, 0, none⟩) 0 0] ([] : List ByteArray) :=
    ((FS.empty (β := ByteArray) (by decide) (heap_alloc_new w (.cells #[] 9))).keep (fun b hb _ => hbm.block b (by simp; omega))).mono (fun b hb _ => .inl hb)
  have hbW : Below w.heap.size w wm := ((Below.refl _ _).alloc (Nat.le_refl _) _).trans (hbm.mono (by simp))
  clear hv hu hx hM hMr
  go_wp2
  go_loopw [7, 9] (fun out i wr => (∃ (k : Nat) (ol : List ByteArray), k ≤ P.length ∧ i = .int .i64 k ∧ FS (fun b => b = w.heap.size ∨ wm.heap.size ≤ b) wr [out] ol ∧ ol.length ≤ 121 * k ∧ Hid (showF P = ol ++ showF (P.drop k))) ∧ Below w.heap.size w wr ∧ wm.heap.size ≤ wr.heap.size ∧ (∀ b, b < wm.heap.size → b ≠ w.heap.size → wr.heap[b]? = wm.heap[b]?)) (fun _ i _ => P.length - (intOf i).toNat)
  case atStart => exact ⟨⟨0, [], by omega, rfl, hE0, by simp, rfl⟩, hbW, Nat.le_refl _, fun _ _ _ => rfl⟩
  case round =>
    obtain ⟨⟨k, ol, hk, rfl, hF, hol, HA⟩, hb, hsz, hrest⟩ := hrel
    obtain ⟨a2, c2, rfl, _⟩ := rd_slice_elim hF.rd
    by_cases hlt : k < P.length
    · obtain ⟨g', off', us', he', hg', _⟩ := hMs.2.2 k hlt
      obtain ⟨g, off, a1, c1, b2, d2, b3, d3, b4, d4, rfl, x0, x1, x2, x3, x4, y1, y2, y3, y4⟩ := hMs.part hlt
      obtain rfl : g' = g := by simp at he'; exact he'.1.symm
      have hgN : g' < wm.heap.size := hg'.2
      have hgne : g' ≠ w.heap.size := by have := hg'.1; simp at this; omega
      have hsp := hsm.at hlt
      have HN := Lib.hid (showF_next HA.out hlt)
      obtain ⟨pp, hpp⟩ : ∃ pp, pp = P[k] := ⟨_, rfl⟩
      rw [← hpp] at x0 x1 x2 x3 x4 y1 y2 y3 y4 hsp HN
      clear hpp HA
      have x0 := cell_rest hrest x0 hgN hgne
      have x1 := cell_rest hrest x1 hgN hgne
      have x3 := cell_rest hrest x3 hgN hgne
      have x4 := cell_rest hrest x4 hgN hgne
      have hL0 : IsSlice (fun b => w.heap.size < b ∧ b < wm.heap.size) wr a1 c1 pp.lines := y1.frame (fun b hb _ => by simp at hb; exact ⟨hrest b hb.2 (by omega), by omega, hb.2⟩)
      have hO0 : IsSlice (fun b => w.heap.size < b ∧ b < wm.heap.size) wr b3 d3 pp.one := y3.frame (fun b hb _ => by simp at hb; exact ⟨hrest b hb.2 (by omega), by omega, hb.2⟩)
      have hT0 : IsSlice (fun b => w.heap.size < b ∧ b < wm.heap.size) wr b4 d4 pp.two := y4.frame (fun b hb _ => by simp at hb; exact ⟨hrest b hb.2 (by omega), by omega, hb.2⟩)
      have hF0 := hF
      have hb0 := hb
      clear y1 y2 y3 y4 x2 he' hg'
      cases hcl : pp.clash with
      | false =>
        have HSO := Lib.hid (show showOf pp = pp.lines by rw [showOf, if_neg (by rw [hcl]; simp)])
        rw [hcl] at x0
        rw [HSO.out] at HN
        clear hcl HSO
        go_wp2_with (at_builtin; (refine wpList_app_sb (N := wm.heap.size) (B := w.heap.size) slz_string.slt rfl (.tmp 27) (.tmp 32) rfl (ys := pp.lines) rfl hF0 hsz (Nat.le_refl _) (by omega) rfl rfl hL0 (by omega) (by unfold maxLen; omega) ?_; intro e1 c1 m1 X1 w1 HX1 hl1 hs1 hF1 hR1 hB1))
        go_roundw
        case rel => exact ⟨⟨k + 1, X1, by omega, by go_num, hF1, by omega, by show _ = _; rw [HN.out, HX1.out]⟩, hb.trans hB1, by omega, fun b h1 h2 => (hR1 b h1 h2).trans (hrest b h1 h2)⟩
        case measure => simp [intOf]; omega
      | true =>
        have HSO := Lib.hid (show showOf pp = ((([⟨#[60, 60, 60]⟩] ++ pp.one) ++ [⟨#[61, 61, 61]⟩]) ++ pp.two) ++ [⟨#[62, 62, 62]⟩] by rw [showOf, if_pos hcl])
        rw [hcl] at x0
        rw [HSO.out] at HN
        clear hcl HSO
        go_wp2_with (at_builtin; first
          | (refine wpList_app_sb (N := wm.heap.size) (B := w.heap.size) slz_string.slt rfl (.tmp 34) (.tmp 35) rfl (ys := [⟨#[60, 60, 60]⟩]) rfl (FS.alloc hF0 _) (by first | omega | (simp; omega)) (Nat.le_refl _) (by omega) rfl rfl (LitAt.slice (LitAt.at 9 _ rfl) (by decide)) (by first | omega | (simp; omega)) (by unfold maxLen; first | omega | (simp; omega)) ?_; intro e1 c1 m1 X1 w1 HX1 hl1 hs1 hF1 hR1 hB1; (try simp at hl1); (try simp at hs1); have x3 := cell_rest hR1 (p := _) (u := _) (cell_alloc x3 _) hgN hgne; have x4 := cell_rest hR1 (p := _) (u := _) (cell_alloc x4 _) hgN hgne; have hO1 := IsSlice.frame (fun b hb _ => ⟨hR1 b hb.2 (by omega), hb⟩) (hO0.alloc _); have hT1 := IsSlice.frame (fun b hb _ => ⟨hR1 b hb.2 (by omega), hb⟩) (hT0.alloc _); have hb1 := Below.trans (hb0.alloc (by omega) _) hB1)
          | (refine wpList_app_sb (N := wm.heap.size) (B := w.heap.size) slz_string.slt rfl (.tmp 37) (.tmp 42) rfl (ys := pp.one) rfl hF1 (by first | omega | (simp; omega)) (Nat.le_refl _) (by omega) rfl rfl hO1 (by first | omega | (simp; omega)) (by unfold maxLen; first | omega | (simp; omega)) ?_; intro e2 c2 m2 X2 w2 HX2 hl2 hs2 hF2 hR2 hB2; (try simp at hl2); (try simp at hs2); have x3 := cell_rest hR2 (p := _) (u := _) (x3) hgN hgne; have x4 := cell_rest hR2 (p := _) (u := _) (x4) hgN hgne; have hO2 := IsSlice.frame (fun b hb _ => ⟨hR2 b hb.2 (by omega), hb⟩) hO1; have hT2 := IsSlice.frame (fun b hb _ => ⟨hR2 b hb.2 (by omega), hb⟩) hT1; have hb2 := Below.trans (hb1) hB2)
          | (refine wpList_app_sb (N := wm.heap.size) (B := w.heap.size) slz_string.slt rfl (.tmp 44) (.tmp 45) rfl (ys := [⟨#[61, 61, 61]⟩]) rfl (FS.alloc hF2 _) (by first | omega | (simp; omega)) (Nat.le_refl _) (by omega) rfl rfl (LitAt.slice (LitAt.at 9 _ rfl) (by decide)) (by first | omega | (simp; omega)) (by unfold maxLen; first | omega | (simp; omega)) ?_; intro e3 c3 m3 X3 w3 HX3 hl3 hs3 hF3 hR3 hB3; (try simp at hl3); (try simp at hs3); have x3 := cell_rest hR3 (p := _) (u := _) (cell_alloc x3 _) hgN hgne; have x4 := cell_rest hR3 (p := _) (u := _) (cell_alloc x4 _) hgN hgne; have hO3 := IsSlice.frame (fun b hb _ => ⟨hR3 b hb.2 (by omega), hb⟩) (hO2.alloc _); have hT3 := IsSlice.frame (fun b hb _ => ⟨hR3 b hb.2 (by omega), hb⟩) (hT2.alloc _); have hb3 := Below.trans (hb2.alloc (by omega) _) hB3)
          | (refine wpList_app_sb (N := wm.heap.size) (B := w.heap.size) slz_string.slt rfl (.tmp 47) (.tmp 52) rfl (ys := pp.two) rfl hF3 (by first | omega | (simp; omega)) (Nat.le_refl _) (by omega) rfl rfl hT3 (by first | omega | (simp; omega)) (by unfold maxLen; first | omega | (simp; omega)) ?_; intro e4 c4 m4 X4 w4 HX4 hl4 hs4 hF4 hR4 hB4; (try simp at hl4); (try simp at hs4); have x3 := cell_rest hR4 (p := _) (u := _) (x3) hgN hgne; have x4 := cell_rest hR4 (p := _) (u := _) (x4) hgN hgne; have hO4 := IsSlice.frame (fun b hb _ => ⟨hR4 b hb.2 (by omega), hb⟩) hO3; have hT4 := IsSlice.frame (fun b hb _ => ⟨hR4 b hb.2 (by omega), hb⟩) hT3; have hb4 := Below.trans (hb3) hB4)
          | (refine wpList_app_sb (N := wm.heap.size) (B := w.heap.size) slz_string.slt rfl (.tmp 54) (.tmp 55) rfl (ys := [⟨#[62, 62, 62]⟩]) rfl (FS.alloc hF4 _) (by first | omega | (simp; omega)) (Nat.le_refl _) (by omega) rfl rfl (LitAt.slice (LitAt.at 9 _ rfl) (by decide)) (by first | omega | (simp; omega)) (by unfold maxLen; first | omega | (simp; omega)) ?_; intro e5 c5 m5 X5 w5 HX5 hl5 hs5 hF5 hR5 hB5; (try simp at hl5); (try simp at hs5); have x3 := cell_rest hR5 (p := _) (u := _) (cell_alloc x3 _) hgN hgne; have x4 := cell_rest hR5 (p := _) (u := _) (cell_alloc x4 _) hgN hgne; have hO5 := IsSlice.frame (fun b hb _ => ⟨hR5 b hb.2 (by omega), hb⟩) (hO4.alloc _); have hT5 := IsSlice.frame (fun b hb _ => ⟨hR5 b hb.2 (by omega), hb⟩) (hT4.alloc _); have hb5 := Below.trans (hb4.alloc (by omega) _) hB5))
        have hE : Hid (X5 = ol ++ ((((([⟨#[60, 60, 60]⟩] ++ pp.one) ++ [⟨#[61, 61, 61]⟩]) ++ pp.two) ++ [⟨#[62, 62, 62]⟩]) : List ByteArray)) := by
          show _ = _
          rw [HX5.out, HX4.out, HX3.out, HX2.out, HX1.out]
          simp only [List.append_assoc]
        have hrr : ∀ b, b < wm.heap.size → b ≠ w.heap.size → w5.heap[b]? = wm.heap[b]? := fun b h1 h2 => ((hR5 b h1 h2).trans ((Below.heap_alloc _ _ _ (by omega)).trans ((hR4 b h1 h2).trans ((hR3 b h1 h2).trans ((Below.heap_alloc _ _ _ (by omega)).trans ((hR2 b h1 h2).trans ((hR1 b h1 h2).trans (Below.heap_alloc _ _ _ (by omega))))))))).trans (hrest b h1 h2)
        go_roundw
        case rel => exact ⟨⟨k + 1, X5, by omega, by go_num, hF5, by omega, by show _ = _; rw [HN.out, hE.out]⟩, hb5, by omega, hrr⟩
        case measure => simp [intOf]; omega
    · have HE := Lib.hid (showF_end HA.out hlt)
      have hFin : Fresh w.heap.size wr.heap.size wr [.slice a2 ol.length c2] ol := hF.fresh (fun b hb hl => by rcases hb with h | h <;> omega)
      go_wp2
      go_ret
      exact ⟨_, rfl, by rw [HD.out, HE.out]; exact hFin, hb⟩
end Go.Proofs.Ytlpfoekbccbhlaa
