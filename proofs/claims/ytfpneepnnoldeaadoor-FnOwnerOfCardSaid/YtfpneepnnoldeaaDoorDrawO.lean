/-
  Walks: owners drawn.
-/
import Derived.Test.YtfpneepnnoldeaaDoorDrawT
import Derived.Test.YtfpneepnnoldeaaDoorOwner0
set_option linter.unusedVariables false
namespace Go.Vc
open Go.RowKit
open Rep (rd)
theorem Drew.cell {rb : Nat} {w w' : World} (h : Drew rb w w') {p : Addr} {u : Value} (hc : w.cell? p = some u) (hp : p.block ≠ rb) : w'.cell? p = some u := by
  rw [World.cell?_of_block (w := w) (h.rest p.block (World.block_lt_of_cell? w p hc) (by simpa using hp))]; exact hc
/-- a literal of one owner -/
theorem lit_owner {w : World} {g : Nat} {e : TypeId} {x : Owner} (h : w.heap[g]? = some (.cells #[.string x.path, .string x.who] e (0, 0))) (h0 : x.path.size ≤ maxLen) (h1 : x.who.size ≤ maxLen) :
    IsSlice (fun b => b = g) w (some ⟨g, 0, none⟩) 1 [x] := by
  refine ⟨Nat.le_refl _, by unfold maxLen; simp, fun i hi => ?_⟩
  have hi0 : i = 0 := by simpa using hi
  subst hi0
  refine ⟨g, 0, [.string x.path, .string x.who], rfl, rfl, fun j u hu => ?_, Rep.mono (fun b hb => by cases hb) (Own.rd_of (own_owner (w := w) h0 h1)), by decide⟩
  rw [cell_of_row w g _ _ e (0, 0) h]
  simpa using hu
theorem alloc_size (w : World) (o : Obj) : (w.alloc o).heap.size = w.heap.size + 1 := by simp
def ownPaths : List ByteArray := [⟨#[97]⟩, ⟨#[98]⟩, ⟨#[100]⟩, ⟨#[100, 47, 101]⟩, ⟨#[103]⟩]
end Go.Vc
namespace Go.Proofs.YtfpneepnnoldeaaDoor
open Go.RowKit Go.Vc
open Go.Vc.Rep (rd)
open Go.Vc.Own (own)

set_option maxHeartbeats 8000000 in
set_option maxRecDepth 100000 in
theorem l30Owners_any (rb N : Nat) (w : World) (h : RdOk w rb N) (hN : N ≤ 900000) :
    Calls Tryd.prog 55 #[.pointer (some ⟨rb, 0, none⟩)] w fun e w' => ∃ (v : Value) (xs : List Owner), e = .returned v ∧ xs.length ≤ 5 ∧ (∀ o, o ∈ xs → o.path.size ≤ 100) ∧ rd (fun b => w.heap.size ≤ b) w' [v] xs ∧ Drew rb w w' ∧ RdOk w' rb (N + 20) := by
  have hlt := h.lt
  obtain ⟨wE, hwE⟩ : ∃ wE, wE = w.alloc (.cells #[] 30) := ⟨_, rfl⟩
  have hE : Fresh w.heap.size wE.heap.size wE [.slice (some ⟨w.heap.size, 0, none⟩) 0 0] ([] : List Owner) := by rw [hwE]; exact (Fresh.empty (by decide) _ _ (Nat.le_refl _)).now
  obtain ⟨wP, hwP⟩ : ∃ wP, wP = wE.alloc (.cells #[.string ⟨#[97]⟩, .string ⟨#[98]⟩, .string ⟨#[100]⟩, .string ⟨#[100, 47, 101]⟩, .string ⟨#[103]⟩] 9) := ⟨_, rfl⟩
  have hsE : wE.heap.size = w.heap.size + 1 := by rw [hwE]; simp
  have hP : IsSlice (fun b => b = w.heap.size + 1) wP (some ⟨w.heap.size + 1, 0, none⟩) 5 ownPaths := by
    rw [← hsE, hwP]
    exact lit_strs ownPaths (heap_alloc_new _ _) (by decide) (by decide)
  have hsP : wP.heap.size = w.heap.size + 2 := by rw [hwP]; simp; omega
  have hBP : Below w.heap.size w wP := by rw [hwP, hwE]; exact (((Below.refl _ _).alloc (by simp <;> omega) _).alloc (by simp <;> omega) _)
  have hFP : FreshX (fun b => b = w.heap.size + 1) w.heap.size wE.heap.size wP [.slice (some ⟨w.heap.size, 0, none⟩) 0 0] ([] : List Owner) := by
    refine Fresh.off ?_ (fun b hb => .inr (by omega))
    rw [hwP]; exact hE.alloc _
  have hRP := h.below hlt hBP
  have HW := Lib.hid (show wP = (w.alloc (.cells #[] 30)).alloc (.cells #[.string ⟨#[97]⟩, .string ⟨#[98]⟩, .string ⟨#[100]⟩, .string ⟨#[100, 47, 101]⟩, .string ⟨#[103]⟩] 9) by rw [hwP, hwE])
  have hdP : Drew rb w wP := Drew.of hBP
  have hsw : w.heap.size + 1 < wP.heap.size := by omega
  clear hE hBP h hwP hwE
  go_enter Tryd.func55, Tryd.ntmps55
  go_wp2
  rw [← HW.out]
  go_loopw [3, 5] (fun out i wr => (∃ (k : Nat) (ol : List Owner), k ≤ 5 ∧ i = .int .i64 k ∧ ol.length ≤ k ∧ (∀ o, o ∈ ol → o.path.size ≤ 100) ∧ FreshX (fun b => b = w.heap.size + 1) w.heap.size wr.heap.size wr [out] ol ∧ IsSlice (fun b => b = w.heap.size + 1) wr (some ⟨w.heap.size + 1, 0, none⟩) 5 ownPaths ∧ w.heap.size + 1 < wr.heap.size ∧ RdOk wr rb (N + 2 * k)) ∧ Drew rb w wr) (fun _ i _ => 5 - (intOf i).toNat)
  case atStart => exact ⟨⟨0, [], by omega, rfl, by simp, (fun o ho => by cases ho), hFP.upTo (by omega), hP, hsw, hRP.mono (by omega)⟩, hdP⟩
  case round =>
    clear hFP hP hdP hRP HW hsP hsE hsw
    obtain ⟨⟨k, ol, hk, rfl, hol, hO, hFX, hP, hsw, hr⟩, hd⟩ := hrel
    obtain ⟨a2, c2, rfl, _⟩ := hFX.fresh.shape
    obtain ⟨wo, rfl⟩ : ∃ wo : World, wo = wr := ⟨_, rfl⟩
    have hsr := hd.size
    by_cases hlk : k < 5
    · go_wp2_with fail
      refine (pick_any rb _ _ _ hr (by omega) (by omega)).mono ?_
      rintro e wx ⟨q, rfl, _, hd2, hr2⟩
      have hFX := (hFX.keep (w' := wx) (fun b h1 _ h3 => hd2.rest b h3 (by simp; omega))).upTo hd2.size
      have hP := hd2.slice hP (fun b hb => by omega)
      have hsz2 := hd2.size
      have hdx := hd.tr hd2
      have hsx := hdx.size
      by_cases h0 : q = 0
      · subst h0
        obtain ⟨g, off, he, hc, hzp⟩ := hP.str (i := k) (by show k < 5; exact hlk)
        obtain ⟨rfl, rfl⟩ : w.heap.size + 1 = g ∧ 0 = off := by simpa using he
        rw [Nat.zero_add] at hc
        have hp100 : (ownPaths[k]'(by show k < 5; exact hlk)).size ≤ 100 := (show ∀ s ∈ ownPaths, s.size ≤ 100 by decide) _ (List.getElem_mem _)
        obtain ⟨p, hp⟩ : ∃ p, p = (ownPaths[k]'(by show k < 5; exact hlk)) := ⟨_, rfl⟩
        rw [← hp] at hc hzp hp100
        have hrx : RdOk wx.drew rb (N + 2 * k + 1) := hr2.keep fun _ _ => rfl
        have hlt2 : rb < wx.heap.size := hr2.lt
        clear hp he hr hd hd2
        have hrD : RdOk ((wx.alloc (.cells #[.string ⟨#[97, 110, 110]⟩, .string ⟨#[98, 111, 98]⟩, .string ⟨#[99, 105, 100]⟩] 9)).drew) rb (N + 2 * k + 1) := (hr2.alloc (.cells #[.string ⟨#[97, 110, 110]⟩, .string ⟨#[98, 111, 98]⟩, .string ⟨#[99, 105, 100]⟩] 9)).keep fun _ _ => rfl
        have hLD : IsSlice (fun b => b = wx.heap.size) ((wx.alloc (.cells #[.string ⟨#[97, 110, 110]⟩, .string ⟨#[98, 111, 98]⟩, .string ⟨#[99, 105, 100]⟩] 9)).drew) (some ⟨wx.heap.size, 0, none⟩) 3 ([⟨#[97, 110, 110]⟩, ⟨#[98, 111, 98]⟩, ⟨#[99, 105, 100]⟩] : List ByteArray) := (lit_strs ([⟨#[97, 110, 110]⟩, ⟨#[98, 111, 98]⟩, ⟨#[99, 105, 100]⟩] : List ByteArray) (heap_alloc_new wx (.cells #[.string ⟨#[97, 110, 110]⟩, .string ⟨#[98, 111, 98]⟩, .string ⟨#[99, 105, 100]⟩] 9)) (by decide) (by decide)).drew
        have OF := of_any (S := fun b => b = wx.heap.size) rb (N + 2 * k + 1) (.slice (some ⟨wx.heap.size, 0, none⟩) 3 3) ([⟨#[97, 110, 110]⟩, ⟨#[98, 111, 98]⟩, ⟨#[99, 105, 100]⟩] : List ByteArray) _ hrD (by omega) hLD.rd (by intro b hb hh; omega) (by decide) (by decide)
        have KAA : ∀ wA : World, Drew rb ((wx.alloc (.cells #[.string ⟨#[97, 110, 110]⟩, .string ⟨#[98, 111, 98]⟩, .string ⟨#[99, 105, 100]⟩] 9)).drew) wA → wA.cell? ⟨w.heap.size + 1, k, none⟩ = some (.string p) := fun wA hdA => Drew.cell hdA (keepc (w := wx) hc (((Below.refl _ _).alloc (Nat.le_refl _) _).drew)) (by show w.heap.size + 1 ≠ rb; omega)
        have FAA : ∀ wA : World, Drew rb ((wx.alloc (.cells #[.string ⟨#[97, 110, 110]⟩, .string ⟨#[98, 111, 98]⟩, .string ⟨#[99, 105, 100]⟩] 9)).drew) wA → FreshX (fun b => b = w.heap.size + 1) w.heap.size wx.heap.size wA [.slice a2 ol.length c2] ol := fun wA hdA => ((hFX.alloc (.cells #[.string ⟨#[97, 110, 110]⟩, .string ⟨#[98, 111, 98]⟩, .string ⟨#[99, 105, 100]⟩] 9)).drew).keep (w' := wA) (fun b h1 _ h3 => hdA.rest b h3 (by simp; omega))
        have SAA : ∀ wA : World, Drew rb ((wx.alloc (.cells #[.string ⟨#[97, 110, 110]⟩, .string ⟨#[98, 111, 98]⟩, .string ⟨#[99, 105, 100]⟩] 9)).drew) wA → wx.heap.size + 1 ≤ wA.heap.size := fun wA hdA => by have := hdA.size; simpa using this
        have T1 : ∀ wA : World, wx.heap.size + 1 ≤ wA.heap.size → ∀ (o : Obj) (b : Nat), b = w.heap.size + 1 → b < (wA.alloc o).heap.size := fun wA h o b hb => by rw [alloc_size]; omega
        have T2 : ∀ wA : World, wx.heap.size + 1 ≤ wA.heap.size → ∀ (o : Obj), w.heap.size ≤ (wA.alloc o).heap.size := fun wA h o => by rw [alloc_size]; omega
        have T3 : ∀ {s : ByteArray}, (ol.length + [(⟨p, s⟩ : Owner)].length) * 32 ≤ 140737488355328 := by intro s; show (ol.length + 1) * 32 ≤ _; omega
        have T4 : ∀ {s : ByteArray}, ol.length + [(⟨p, s⟩ : Owner)].length ≤ maxLen := by intro s; show ol.length + 1 ≤ _; unfold maxLen; omega
        clear hrD hLD hrx
        go_wp2_with fail
        go_region_held3 (fun w' => w'.cell? ⟨w.heap.size + 1, k, none⟩ = some (.string p))
          (first | go_keep | exact K9 | exact KA | exact hc)
          (first
            | (go_at_call 70; go_must (refine OF.mono ?_); rintro e wA ⟨s, rfl, _, hzs, hdA, hrA⟩; have KA := KAA wA hdA; have hFA := FAA wA hdA; have hsA := SAA wA hdA)
            | ((refine step_app_leafX (H := fun b => b = w.heap.size + 1) (B := w.heap.size) (m0 := wx.heap.size) (xs := ol) (ys := [(⟨p, s⟩ : Owner)]) slz_owner.slt rfl (.tmp 17) (.tmp 26) rfl rfl (hFA.alloc _) (T1 wA hsA _) (T2 wA hsA _) rfl rfl (lit_owner (x := ⟨p, s⟩) (heap_alloc_new _ _) hzp hzs) T3 T4 ?_); intro a9 c9 w9 hG9; have K9 := hG9.cell (p := ⟨w.heap.size + 1, k, none⟩) (keepc KA ((Below.refl _ _).alloc (Nat.le_refl _) _)) rfl))
        all_goals
          have hs9 := hG9.below.size
          have hsA' : wx.heap.size + 1 ≤ wA.heap.size := hsA
          have hdxA : Drew rb wx wA := (Drew.of ((Below.refl wx.heap.size wx).drew.alloc (Nat.le_refl _) _)).tr hdA
          have hP9 : IsSlice (fun b => b = w.heap.size + 1) w9 (some ⟨w.heap.size + 1, 0, none⟩) 5 ownPaths := hP.frame fun b hb _ => ⟨(grewX_old hG9 (by omega) (.inr hb)).trans (hdxA.rest b (by omega) (by simp; omega)), hb⟩
          have hd9 := ((hdx.tr hdxA).belowB ((Below.refl w.heap.size wA).alloc (by omega) (.cells #[.string p, .string s] 30)) (Nat.le_refl _)).belowB hG9.below (Nat.le_refl _)
          have hr9 := (hrA.alloc (.cells #[.string p, .string s] 30)).below hlt hG9.below
          have hFX9 := hG9.fresh
          have hO9 : ∀ o, o ∈ ol ++ [(⟨p, s⟩ : Owner)] → o.path.size ≤ 100 := fun o ho => by
            rcases List.mem_append.1 ho with ho | ho
            · exact hO o ho
            · rw [List.mem_singleton.1 ho]; exact hp100
          clear K9 KA hG9 hdA hrA hFA hdxA hP hFX hdx
          go_wp2
          go_roundw
          case rel => exact ⟨⟨k + 1, ol ++ [(⟨p, s⟩ : Owner)], by omega, by go_num, by simp; omega, hO9, by simpa using hFX9, hP9, by simp at hs9; omega, hr9.mono (by omega)⟩, hd9⟩
          case measure => simp [intOf] <;> omega
      · have h0' := nat_eq_f h0
        go_wp2
        go_roundw
        case rel => exact ⟨⟨k + 1, ol, by omega, by go_num, by omega, hO, hFX, hP, by omega, hr2.mono (by omega)⟩, hdx⟩
        case measure => simp [intOf] <;> omega
    · have hk5 : k = 5 := by omega
      subst hk5
      have hF := hFX.fresh
      by_cases hpos : 0 < ol.length
      · have hpos' : decide (0 < ol.length) = true := decide_eq_true hpos
        go_wp2_with fail
        refine (pick_any rb _ _ _ hr (by omega) (by omega)).mono ?_
        rintro e wx ⟨q, rfl, _, hd2, hr2⟩
        have hF := (hd2.fresh hF (.inl hlt)).now
        have hdx := hd.tr hd2
        by_cases h0 : q = 0
        · subst h0
          obtain ⟨g2, rfl, hg2, hg3⟩ := hF.addr hpos
          obtain ⟨⟨u', hu⟩, hfz, _, hF7⟩ := hF.setL lens_owner_who hdx.size hpos (Below.refl _ _) (show Fresh wx.heap.size wx.heap.size wx [.string ⟨#[]⟩] (⟨#[]⟩ : ByteArray) from Fresh.leaf ⟨rfl, rfl, Nat.zero_le _⟩)
          have hu' : wx.cell? ⟨g2, 1, none⟩ = some u' := hu
          have hfz' : wx.frozen? ⟨g2, 1, none⟩ = false := hfz
          have hOs : ∀ o, o ∈ ol.set 0 (⟨ol[0].path, ⟨#[]⟩⟩ : Owner) → o.path.size ≤ 100 := fun o ho => by
            rcases List.mem_or_eq_of_mem_set ho with ho | rfl
            · exact hO o ho
            · show ol[0].path.size ≤ 100
              exact hO _ (List.getElem_mem hpos)
          clear hu hfz
          go_wp2
          go_ret
          exact ⟨_, _, rfl, by rw [List.length_set]; exact hol, hOs, hF7.rd, hdx.belowB ((Below.refl _ _).setCell hg2 _) (Nat.le_refl _), (hr2.below (B := w.heap.size) hlt ((Below.refl _ _).setCell hg2 _)).mono (by omega)⟩
        · have h0' := nat_eq_f h0
          go_wp2
          go_ret
          exact ⟨_, ol, rfl, hol, hO, hF.rd, hdx, hr2.mono (by omega)⟩
      · have hpos' : decide (0 < ol.length) = false := decide_eq_false hpos
        go_wp2
        go_ret
        exact ⟨_, ol, rfl, hol, hO, hF.rd, hd, hr.mono (by omega)⟩
end Go.Proofs.YtfpneepnnoldeaaDoor
