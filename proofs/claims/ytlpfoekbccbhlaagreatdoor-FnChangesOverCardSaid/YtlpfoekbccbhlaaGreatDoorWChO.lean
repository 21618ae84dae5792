/-
  Walks: what changed between two trees, as the program has it.
-/
import Derived.Test.YtlpfoekbccbhlaaGreatDoorVCH
import Derived.Test.YtlpfoekbccbhlaaGreatDoorVCK
import Derived.Test.YtlpfoekbccbhlaaGreatDoorVM3
import Derived.Test.YtlpfoekbccbhlaaGreatDoorVGR
import Derived.Test.YtlpfoekbccbhlaaGreatDoorVSM
import Derived.Test.YtlpfoekbccbhlaaGreatDoorVTR
import Derived.Test.YtlpfoekbccbhlaaGreatDoorVFS
import Derived.Deep.RegionHeld3
set_option linter.unusedVariables false
namespace Go.Vc
open Go.RowKit
theorem changes_bad {a b : List File} (h : treeB a = false ∨ treeB b = false) : changesOf a b = [] := by
  unfold changesOf
  rw [if_neg]
  rintro ⟨h1, h2⟩
  rcases h with h | h
  · rw [h] at h1; cases h1
  · rw [h] at h2; cases h2
theorem changes_ok {a b : List File} (h1 : treeB a = true) (h2 : treeB b = true) : changesOf a b = chA a b a [] ++ chB a (chA a b a []) b := by
  unfold changesOf chT
  rw [if_pos ⟨h1, h2⟩]
theorem goes_more {ol : List Change} {tg : List ByteArray} {c : Change} (h : ∀ p, ¬ p = ⟨#[]⟩ → goesTo ol p = hasS p tg) (hc : c.dst = ⟨#[]⟩) : ∀ p, ¬ p = ⟨#[]⟩ → goesTo (ol ++ [c]) p = hasS p tg := fun p hp => by
  rw [← h p hp]
  unfold goesTo
  rw [List.any_append]
  have : decide (c.dst = p) = false := decide_eq_false fun e => hp (by rw [← e, hc])
  simp [this]
theorem goes_to {ol : List Change} {tg : List ByteArray} {c : Change} (h : ∀ p, ¬ p = ⟨#[]⟩ → goesTo ol p = hasS p tg) : ∀ p, ¬ p = ⟨#[]⟩ → goesTo (ol ++ [c]) p = hasS p (tg ++ [c.dst]) := fun p hp => by
  unfold hasS
  unfold hasS at h
  rw [List.any_append, ← h p hp]
  unfold goesTo
  rw [List.any_append]
  simp
end Go.Vc
namespace Go.Proofs.YtlpfoekbccbhlaaGreatDoor
open Go.RowKit Go.Vc
open Go.Vc.Rep (rd)
open Go.Vc.Own (own)
theorem i64_1 {n : Nat} (h : n ≤ 9) : I64 (n : Int) := by unfold I64; omega
set_option maxHeartbeats 16000000 in
set_option maxRecDepth 100000 in
theorem implChangesOf {S T : Nat → Prop} (v u : Value) (a b : List File) (w : World) (hv : rd S w [v] a) (hu : rd T w [u] b) (hSa : ∀ f, f ∈ a → ShortS f.path) (hSb : ∀ f, f ∈ b → ShortS f.path) (hM : ML w) :
    Calls Tryz.prog 9 #[v, u] w fun e w' => ∃ v', e = .returned v' ∧ Fresh w.heap.size w'.heap.size w' [v'] (changesOf a b) ∧ Below w.heap.size w w' := by
  obtain ⟨a1, c1, rfl, h1⟩ := rd_slice_elim (Rep.lt hv)
  obtain ⟨a2, c2, rfl, h2⟩ := rd_slice_elim (Rep.lt hu)
  clear hv hu
  cases ea : treeB a with
  | false =>
    have HD := Lib.hid (changes_bad (b := b) (.inl ea))
    go_enter Tryz.func9, Tryz.ntmps9
    go_wp2_with fail
    refine (treeOk_is _ a _ h1.rd hSa hM ea).mono ?_
    rintro e w1 ⟨rfl, hW⟩
    go_wp2
    go_ret
    exact ⟨_, rfl, by rw [HD.out]; exact Fresh.nil _ _ _ (by decide), hW⟩
  | true =>
    cases eb : treeB b with
    | false =>
      have HD := Lib.hid (changes_bad (a := a) (.inr eb))
      go_enter Tryz.func9, Tryz.ntmps9
      go_wp2_with fail
      refine (treeOk_is _ a _ h1.rd hSa hM ea).mono ?_
      rintro e w1 ⟨rfl, hW1⟩
      go_wp2_with fail
      refine (treeOk_is _ b _ (h2.keep hW1).rd hSb (hM.keep hW1) eb).mono ?_
      rintro e w2 ⟨rfl, hW2⟩
      go_wp2
      go_ret
      exact ⟨_, rfl, by rw [HD.out]; exact Fresh.nil _ _ _ (by decide), hW1.trans (hW2.mono hW1.size)⟩
    | true =>
      have HD := Lib.hid (changes_ok ea eb)
      have HPF := Lib.hid (show ∀ g, g ∈ b → ¬ g.path = ⟨#[]⟩ from fun g hg => path_full eb hg)
      obtain ⟨l1, x1⟩ := tree_files ea
      obtain ⟨l2, x2⟩ := tree_files eb
      have n1 := h1.le
      have n2 := h2.le
      go_enter Tryz.func9, Tryz.ntmps9
      go_wp2_with fail
      refine (treeOk_is _ a _ h1.rd hSa hM ea).mono ?_
      rintro e w01 ⟨rfl, hW1⟩
      go_wp2_with fail
      refine (treeOk_is _ b _ (h2.keep hW1).rd hSb (hM.keep hW1) eb).mono ?_
      rintro e w1 ⟨rfl, hW2⟩
      have hW := hW1.trans (hW2.mono hW1.size)
      have hsW := hW.size
      clear hW1 hW2 ea eb hM hSa hSb
      go_wp2
      go_loopw [5, 6, 30] (fun out tgt i wr => (∃ (k : Nat) (ol : List Change) (tg : List ByteArray) (S1 S2 : Nat → Prop), k ≤ a.length ∧ i = .int .i64 k ∧ ol.length ≤ k ∧ tg.length ≤ k ∧ FS S1 wr [out] ol ∧ FS S2 wr [tgt] tg ∧ (∀ b, S1 b → S2 b → False) ∧ (∀ b, S1 b ∨ S2 b → w1.heap.size ≤ b ∧ b < wr.heap.size) ∧ Hid (chA a b a [] = chA a b (a.drop k) ol) ∧ Hid (∀ p, ¬ p = ⟨#[]⟩ → goesTo ol p = hasS p tg)) ∧ Below w1.heap.size w1 wr) (fun _ _ i _ => a.length - (intOf i).toNat)
      case atStart => exact ⟨⟨0, [], [], fun _ => False, fun _ => False, by omega, rfl, by simp, by simp, (Fresh.nil (β := Change) w1.heap.size w1.heap.size _ (by decide)).fs.mono (fun b hb hl => by omega), (Fresh.nil (β := ByteArray) w1.heap.size w1.heap.size _ Nat.one_pos).fs.mono (fun b hb hl => by omega), fun _ h _ => h, fun b hb => (by rcases hb with h | h <;> exact h.elim), rfl, fun p _ => rfl⟩, Below.refl _ _⟩
      case round =>
        obtain ⟨⟨k, ol, tg, S1, S2, hk, rfl, hol, htg, hF1, hF2, hdis, hbd, HA, HTG⟩, hbr⟩ := hrel
        obtain ⟨ao, co, rfl, _⟩ := rd_slice_elim hF1.rd
        obtain ⟨at_, ct, rfl, _⟩ := rd_slice_elim hF2.rd
        have hsr := hbr.size
        have hBr := hW.trans (hbr.mono hsW)
        have hbd1 : ∀ b, S1 b → w1.heap.size ≤ b ∧ b < wr.heap.size := fun b h => hbd b (.inl h)
        have hbd2 : ∀ b, S2 b → w1.heap.size ≤ b ∧ b < wr.heap.size := fun b h => hbd b (.inr h)
        obtain ⟨wo, rfl⟩ : ∃ wo : World, wo = wr := ⟨_, rfl⟩
        by_cases hlt : k < a.length
        · obtain ⟨g, off, a9, c9, hag, hc1, hc2, hz1, hft⟩ := h1.file hlt
          have HS_ := Lib.hid (fun hg => chA_same HA.out hlt hg)
          have HE_ := Lib.hid (fun x hg h => chA_edit (x := x) HA.out hlt hg h)
          have HM_ := Lib.hid (fun hg g ht => chA_move (g := g) HA.out hlt hg ht)
          have HP_ := Lib.hid (fun hg ht => chA_drop HA.out hlt hg ht)
          have hx10 := x1 a[k] (List.getElem_mem hlt)
          obtain ⟨f, hf⟩ : ∃ f, f = a[k] := ⟨_, rfl⟩
          rw [← hf] at hc1 hc2 hz1 hft HS_ HE_ HM_ HP_ hx10
          obtain ⟨p, hp⟩ : ∃ p, p = f.path := ⟨_, rfl⟩
          obtain ⟨tx, htx⟩ : ∃ tx, tx = f.text := ⟨_, rfl⟩
          rw [← hp] at hc1 hz1 HS_ HE_ HM_ HP_
          rw [← htx] at hc2 hft HS_ HE_ HM_ HP_ hx10
          obtain ⟨M, hMg⟩ : ∃ M, getT b p = M := ⟨_, rfl⟩
          rw [hMg] at HS_ HE_ HM_ HP_
          have HMG := Lib.hid hMg
          have hc1 := keepc hc1 hBr
          have hc2 := keepc hc2 hBr
          subst hag
          obtain ⟨wb, hwb⟩ : ∃ wb, wb = wo.alloc (.cells #[.string p, .slice a9 tx.length c9] 62) := ⟨_, rfl⟩
          obtain ⟨hB1, hsb, hq⟩ := boxed (vs := [.string p, .slice a9 tx.length c9]) hwb
          have q0 := hq 0 _ rfl
          have q1 := hq 1 _ rfl
          have hF1 := hF1.below hB1 (fun b h _ => (hbd1 b h).2)
          have hF2 := hF2.below hB1 (fun b h _ => (hbd2 b h).2)
          have hbb := hbr.trans (hB1.mono hsr)
          have hBb := hW.trans (hbb.mono hsW)
          have hsb1 : wo.heap.size < wb.heap.size := by omega
          have HWB := Lib.hid hwb
          clear hf hp htx hq hwb HA hMg hsb
          go_wp2_with fail
          rw [← HWB.out]
          refine (get_any _ b p _ (h2.keep hBb).rd x2 HMG.out).mono ?_
          rintro e w3 ⟨vt, rfl, hT, hb3⟩
          have hs3 := hb3.size
          have q0 := keepc q0 hb3
          have q1 := keepc q1 hb3
          have hF1 := hF1.below hb3 (fun b h _ => (by have := (hbd1 b h).2; omega))
          have hF2 := hF2.below hb3 (fun b h _ => (by have := (hbd2 b h).2; omega))
          have hb3b := hbb.trans (hb3.mono hbb.size)
          have hB3 := hW.trans (hb3b.mono hsW)
          have hft := hft.keep hB3
          obtain ⟨avt, cvt, rfl, _⟩ := hT.shape
          clear HWB hb3 hB1
          cases M with
          | some x =>
            have e1 : (some x : Option (List ByteArray)).getD [] = x := rfl
            have e2 : (some x : Option (List ByteArray)).isSome = true := rfl
            rw [e1] at hT
            have hxl : x.length ≤ 10 := by
              obtain ⟨g9, hg9, _, rfl⟩ := getT_mem HMG.out
              exact x2 g9 hg9
            rw [e1, e2]
            clear e1 e2 HM_ HP_
            by_cases he : x = tx
            · have hd := decide_eq_true he
              have HN := Lib.hid (HS_.out (by rw [he]))
              clear he HS_ HE_
              go_wp2_with fail
              refine (slicesEqual_is _ _ x tx _ hT.rd hft.rd hd).mono ?_
              rintro e w4 ⟨rfl, n4, he4⟩
              have hb4 : Below w3.heap.size w3 w4 := by rw [he4]; exact below_drewN (Below.refl _ _) n4
              clear he4
              have hs4 := hb4.size
              go_wp2
              go_roundw
              case rel => exact ⟨⟨k + 1, ol, tg, S1, S2, by omega, by go_num, by omega, by omega, hF1.below hb4 (fun b h _ => (by have := (hbd1 b h).2; omega)), hF2.below hb4 (fun b h _ => (by have := (hbd2 b h).2; omega)), hdis, fun b h => (by have := hbd b h; omega), HN.out, HTG.out⟩, hb3b.trans (hb4.mono (by omega))⟩
              case measure => simp [intOf] <;> omega
            · have hd := decide_eq_false he
              have HN := Lib.hid (HE_.out x rfl he)
              clear he HS_ HE_
              go_wp2_with fail
              refine (slicesEqual_is _ _ x tx _ hT.rd hft.rd hd).mono ?_
              rintro e w4 ⟨rfl, n4, he4⟩
              have hb4 : Below w3.heap.size w3 w4 := by rw [he4]; exact below_drewN (Below.refl _ _) n4
              clear he4
              have hs4 := hb4.size
              have q0 := keepc q0 hb4
              have q1 := keepc q1 hb4
              have hF1 := hF1.below hb4 (fun b h _ => (by have := (hbd1 b h).2; omega))
              have hF2 := hF2.below hb4 (fun b h _ => (by have := (hbd2 b h).2; omega))
              have hb4b := hb3b.trans (hb4.mono (by omega))
              have hft := hft.keep (hb4.mono hB3.size)
              have hT4 := hT.below (Nat.le_refl _) hb4
              clear hT hd hb4 hB3
              go_wp2_with fail
              first
              | (
                go_region_held3 (fun w' => w'.cell? ⟨wo.heap.size, 0, none⟩ = some (.string p) ∧ w'.cell? ⟨wo.heap.size, 1, none⟩ = some (.slice a9 tx.length c9))
                  (first | exact K9 | exact KA | exact ⟨q0, q1⟩ | go_keep)
                  (first
                    | (go_at_call 42; refine (diff_any _ _ tx x _ (Rep.drew hft.rd) (Rep.drew hT4.rd) hx10 hxl).mono ?_; rintro e wA ⟨vA, rfl, hA, hbA⟩; have hszA := hbA.size; obtain ⟨aA, cA, rfl, _⟩ := hA.shape; have KA := And.intro (keepc (w := w4.drew) q0 hbA) (keepc (w := w4.drew) q1 hbA))
                    | (refine step_app_oneS (T := fun b => w4.heap.size ≤ b ∧ b < wA.heap.size) (y := (⟨3, p, ⟨#[]⟩, [], diffT tx x⟩ : Change)) slz_change.slt rfl (.tmp 101) (.tmp 109) rfl rfl (((hF1.drew).below hbA (fun b h _ => (by have := (hbd1 b h).2; simp; omega))).alloc _) rfl (heap_alloc_new _ _) (FS.alloc (Fresh.change (p := ⟨3, p, ⟨#[]⟩, [], diffT tx x⟩) (m0 := w4.heap.size) (m1 := w4.heap.size) (i64_1 (n := 3) (by omega)) hz1 (Nat.zero_le _) (Fresh.nil (β := ByteArray) _ _ _ Nat.one_pos) hA (Nat.le_refl _) (by simpa using hszA)).fs _) (fun b h1 h2 _ => (by have := (hbd1 b h1).2; have h3 : w4.heap.size ≤ b ∧ b < wA.heap.size := h2; omega)) (by omega) (by unfold maxLen; omega) ?_; intro a7 c7 w9 g1 g2 g3; have K9 := And.intro ((World.cell?_of_block (w := wA.alloc _) (g3 wo.heap.size (by simp at hszA ⊢; omega) (fun h => (by have := hbd1 _ h; omega)))).trans (keepc KA.1 ((Below.refl _ _).alloc (Nat.le_refl _) _))) ((World.cell?_of_block (w := wA.alloc _) (g3 wo.heap.size (by simp at hszA ⊢; omega) (fun h => (by have := hbd1 _ h; omega)))).trans (keepc KA.2 ((Below.refl _ _).alloc (Nat.le_refl _) _))))))
              | fail
              all_goals
                have hs9 := (g2 0 (Nat.zero_le _) (fun _ _ _ => Nat.zero_le _)).size
                rw [World.size_alloc] at hs9
                have hbA2 : Below w4.heap.size w4 wA := (Below.refl _ _).drew.trans (hbA.mono (by simp))
                have hAs := hbA2.size
                have hB9 := ((hb4b.trans (hbA2.mono (by omega))).alloc (by omega) (.cells #[.int .i64 3, .string p, .string ⟨#[]⟩, .slice none 0 0, .slice aA (diffT tx x).length cA] 73)).trans (g2 w1.heap.size (by simp; omega) (fun b h _ => (hbd1 b h).1))
                have hF29 := ((((hF2.below hbA2 (fun b h _ => (by have := (hbd2 b h).2; omega))).alloc (.cells #[.int .i64 3, .string p, .string ⟨#[]⟩, .slice none 0 0, .slice aA (diffT tx x).length cA] 73))).keep (w' := w9) fun b h hl => g3 b hl fun h1 => hdis b h1 h)
                have hF19 := g1.mono (T := fun b => (S1 b ∨ w4.heap.size ≤ b) ∧ b < w9.heap.size) (fun b h hl => ⟨by rcases h with h | h | h; exact .inl h; exact .inr h.1; exact .inr (by simp at h; omega), hl⟩)
                clear K9 KA g1 g2 g3 hA
                go_wp2
                go_roundw
                case rel => exact ⟨⟨k + 1, ol ++ [(⟨3, p, ⟨#[]⟩, [], diffT tx x⟩ : Change)], tg, _, S2, by omega, by go_num, by simp; omega, by omega, by simpa using hF19, hF29, fun b h h2 => (by
                    rcases h.1 with h1 | h1
                    · exact hdis b h1 h2
                    · have := hbd2 b h2; omega), fun b h => (by
                    rcases h with h | h
                    · have h9 := h.2
                      rcases h.1 with h1 | h1
                      · have := hbd1 b h1; omega
                      · omega
                    · have := hbd2 b h; omega), HN.out, goes_more HTG.out rfl⟩, hB9⟩
                case measure => simp [intOf] <;> omega
          | none =>
            have e2 : (none : Option (List ByteArray)).isSome = false := rfl
            rw [e2]
            have HMX := Lib.hid (fun g ht => HM_.out rfl g ht)
            have HPX := Lib.hid (HP_.out rfl)
            clear e2 hT HS_ HE_ HM_ HP_
            have K0 := And.intro q0 q1
            go_wp2_with fail
            first
            | (
              go_region_held3 (fun w' => w'.cell? ⟨wo.heap.size, 0, none⟩ = some (.string p) ∧ w'.cell? ⟨wo.heap.size, 1, none⟩ = some (.slice a9 tx.length c9))
                (first | with_reducible exact K0 | with_reducible exact KA | with_reducible exact ⟨keepc KA.1 ((Below.refl _ _).alloc (Nat.le_refl _) _), keepc KA.2 ((Below.refl _ _).alloc (Nat.le_refl _) _)⟩ | with_reducible exact ⟨keepc q0 (((((hbV.setCell (p := ⟨w3.heap.size, 0, none⟩) (Nat.le_refl _) _).setCell (p := ⟨w3.heap.size, 1, none⟩) (Nat.le_refl _) _).setCell (p := ⟨w3.heap.size, 2, none⟩) (Nat.le_refl _) _).setCell (p := ⟨w3.heap.size, 3, none⟩) (Nat.le_refl _) _).setCell (p := ⟨w3.heap.size, 4, none⟩) (Nat.le_refl _) _), keepc q1 (((((hbV.setCell (p := ⟨w3.heap.size, 0, none⟩) (Nat.le_refl _) _).setCell (p := ⟨w3.heap.size, 1, none⟩) (Nat.le_refl _) _).setCell (p := ⟨w3.heap.size, 2, none⟩) (Nat.le_refl _) _).setCell (p := ⟨w3.heap.size, 3, none⟩) (Nat.le_refl _) _).setCell (p := ⟨w3.heap.size, 4, none⟩) (Nat.le_refl _) _)⟩ | go_keep)
                (first
                  | (go_at_call 43; refine (copyText_any _ tx _ (Rep.drew hft.rd) (by omega)).mono ?_; rintro e wA ⟨aA, cA, rfl, hA, hbA⟩; have hszA := hbA.size; have KA := And.intro (keepc (w := w3.drew) q0 hbA) (keepc (w := w3.drew) q1 hbA); have hO1 := True.intro)
                  | (go_at_call 43; refine (copyText_any _ tx _ (Rep.drew (Rep.alloc hft.rd (.cells #[.int .i64 0, .string ⟨#[]⟩, .string ⟨#[]⟩, .slice none 0 0, .slice none 0 0] 73))) (by omega)).mono ?_; rintro e wA ⟨aA, cA, rfl, hA, hbA⟩; have hszA := hbA.size; have hbV := ((Below.refl w3.heap.size w3).alloc (Nat.le_refl _) (.cells #[.int .i64 0, .string ⟨#[]⟩, .string ⟨#[]⟩, .slice none 0 0, .slice none 0 0] 73)).drew.trans (hbA.mono (by simp)); have KA := And.intro (keepc q0 hbV) (keepc q1 hbV); have hbx9 := (hbA.block w3.heap.size (by simp)).trans (heap_alloc_new w3 (.cells #[.int .i64 0, .string ⟨#[]⟩, .string ⟨#[]⟩, .slice none 0 0, .slice none 0 0] 73)); have x0 := (cell_of_row wA w3.heap.size 0 _ _ (0, 0) hbx9); have x1 := (cell_of_row wA w3.heap.size 1 _ _ (0, 0) hbx9); have x2' := (cell_of_row wA w3.heap.size 2 _ _ (0, 0) hbx9); have x3 := (cell_of_row wA w3.heap.size 3 _ _ (0, 0) hbx9); have x4 := (cell_of_row wA w3.heap.size 4 _ _ (0, 0) hbx9); have z0 := frozen_of_row wA w3.heap.size 0 _ _ hbx9; have z1 := frozen_of_row wA w3.heap.size 1 _ _ hbx9; have z2 := frozen_of_row wA w3.heap.size 2 _ _ hbx9; have z3 := frozen_of_row wA w3.heap.size 3 _ _ hbx9; have z4 := frozen_of_row wA w3.heap.size 4 _ _ hbx9; simp at x0 x1 x2' x3 x4; have hO2 := True.intro)))
            | fail
            any_goals (
              have hm := hO1
              have hzx : w3.heap.size ≤ wA.heap.size := hszA
              obtain ⟨wz, hwz⟩ : ∃ wz, wz = wA.alloc (.cells #[.int .i64 2, .string p, .string ⟨#[]⟩, .slice aA tx.length cA, .slice none 0 0] 73) := ⟨_, rfl⟩
              have hbox : wz.heap[wA.heap.size]? = some (.cells #[.int .i64 2, .string p, .string ⟨#[]⟩, .slice aA tx.length cA, .slice none 0 0] 73 (0, 0)) := (by rw [hwz]; exact heap_alloc_new _ _)
              have hbz : Below w3.heap.size w3 wz := (by rw [hwz]; exact ((Below.refl _ _).drew.trans (hbA.mono (by simp))).alloc hzx _)
              have hAz : Fresh w3.heap.size wz.heap.size wz [.slice aA tx.length cA] tx := (by rw [hwz]; exact (hA.alloc _).mono (by simp) (by simp))
              have hKz : wz.cell? ⟨wo.heap.size, 0, none⟩ = some (.string p) ∧ wz.cell? ⟨wo.heap.size, 1, none⟩ = some (.slice a9 tx.length c9) := ⟨keepc q0 hbz, keepc q1 hbz⟩
              obtain ⟨cb, hcb⟩ : ∃ cb, cb = wA.heap.size := ⟨_, rfl⟩
              have hcb3 : w3.heap.size ≤ cb := (by omega)
              rw [← hcb] at hbox
              clear hm hO1 KA hA hbA hszA hzx
              rw [← hwz, ← hcb])
            any_goals (
              have hm := hO2
              obtain ⟨wz, hwz⟩ : ∃ wz, wz = (((((wA.setCell ⟨w3.heap.size, 0, none⟩ (.int .i64 2)).setCell ⟨w3.heap.size, 1, none⟩ (.string p)).setCell ⟨w3.heap.size, 2, none⟩ (.string ⟨#[]⟩)).setCell ⟨w3.heap.size, 3, none⟩ (.slice aA tx.length cA)).setCell ⟨w3.heap.size, 4, none⟩ (.slice none 0 0)) := ⟨_, rfl⟩
              have hbox : wz.heap[w3.heap.size]? = some (.cells #[.int .i64 2, .string p, .string ⟨#[]⟩, .slice aA tx.length cA, .slice none 0 0] 73 (0, 0)) := (by rw [hwz]; exact (heap_setCell_same _ _ 4 _ _ _ (heap_setCell_same _ _ 3 _ _ _ (heap_setCell_same _ _ 2 _ _ _ (heap_setCell_same _ _ 1 _ _ _ (heap_setCell_same _ _ 0 _ _ _ hbx9))))))
              have hbz : Below w3.heap.size w3 wz := (by rw [hwz]; exact (((((hbV.setCell (p := ⟨w3.heap.size, 0, none⟩) (Nat.le_refl _) _).setCell (p := ⟨w3.heap.size, 1, none⟩) (Nat.le_refl _) _).setCell (p := ⟨w3.heap.size, 2, none⟩) (Nat.le_refl _) _).setCell (p := ⟨w3.heap.size, 3, none⟩) (Nat.le_refl _) _).setCell (p := ⟨w3.heap.size, 4, none⟩) (Nat.le_refl _) _))
              have hAz : Fresh w3.heap.size wz.heap.size wz [.slice aA tx.length cA] tx := (by rw [hwz]; exact ((((((hA.mono (B' := w3.heap.size + 1) (by simp) (Nat.le_refl _)).setCell (.inl (Nat.lt_succ_self _))).setCell (.inl (Nat.lt_succ_self _))).setCell (.inl (Nat.lt_succ_self _))).setCell (.inl (Nat.lt_succ_self _))).setCell (.inl (Nat.lt_succ_self _))).mono (by omega) (by simp))
              have hKz : wz.cell? ⟨wo.heap.size, 0, none⟩ = some (.string p) ∧ wz.cell? ⟨wo.heap.size, 1, none⟩ = some (.slice a9 tx.length c9) := ⟨keepc q0 hbz, keepc q1 hbz⟩
              obtain ⟨cb, hcb⟩ : ∃ cb, cb = w3.heap.size := ⟨_, rfl⟩
              have hcb3 : w3.heap.size ≤ cb := (by omega)
              rw [← hcb] at hbox
              clear hm hO2 KA hA hbA hszA hbV x0 x1 x2' x3 x4 z0 z1 z2 z3 z4 hbx9
              rw [← hwz, ← hcb])
            all_goals
              have hsz := hbz.size
              have hF1 := hF1.below hbz (fun b h _ => (by have := (hbd1 b h).2; omega))
              have hF2 := hF2.below hbz (fun b h _ => (by have := (hbd2 b h).2; omega))
              have hBz := hb3b.trans (hbz.mono (by omega))
              have hBBz := hW.trans (hBz.mono hsW)
              have q0 := hKz.1
              have q1 := hKz.2
              have hw1cb : w1.heap.size ≤ cb := (by have := hb3b.size; omega)
              have hcw : cb < wz.heap.size := (Array.getElem?_eq_some_iff.1 hbox).1
              clear hKz K0 hcb hwz
              go_wp2
              go_loopw [6, 49] (fun tv i wr => (∃ j : Nat, j ≤ b.length ∧ i = .int .i64 j ∧ tv = .slice at_ tg.length ct ∧ Hid (chTo a b ol tx = (b.drop j).find? (mayB a ol tx))) ∧ Below wz.heap.size wz wr) (fun _ i _ => b.length - (intOf i).toNat)
              case atStart => exact ⟨⟨0, by omega, rfl, rfl, rfl⟩, Below.refl _ _⟩
              case round =>
                obtain ⟨⟨j, hj, rfl, rfl, HB⟩, hbq⟩ := hrel
                have hsq := hbq.size
                have hBq := hBBz.trans (hbq.mono (by have := hBBz.size; omega))
                have q0 := keepc q0 hbq
                have q1 := keepc q1 hbq
                have hbox := (hbq.block cb hcw).trans hbox
                have hF1 := hF1.below hbq (fun b h _ => (by have := (hbd1 b h).2; omega))
                have hF2 := hF2.below hbq (fun b h _ => (by have := (hbd2 b h).2; omega))
                have hBz := hBz.trans (hbq.mono (by omega))
                by_cases hlt2 : j < b.length
                · obtain ⟨g2, off2, a8, c8, hag2, hd1, hd2, hz2, hgt⟩ := h2.file hlt2
                  have HT1 := Lib.hid (to_hit HB.out hlt2)
                  have HT2 := Lib.hid (to_next HB.out hlt2)
                  have hgE := HPF.out b[j] (List.getElem_mem hlt2)
                  have hg10 := x2 b[j] (List.getElem_mem hlt2)
                  obtain ⟨gf, hgf⟩ : ∃ gf, gf = b[j] := ⟨_, rfl⟩
                  rw [← hgf] at hd1 hd2 hz2 hgt HT1 HT2 hgE hg10
                  have hmay : mayB a ol tx gf = ((getT a gf.path).isNone && decide (gf.text = tx) && !hasS gf.path tg) := by unfold mayB; rw [HTG.out _ hgE]
                  obtain ⟨gp, hgp⟩ : ∃ gp, gp = gf.path := ⟨_, rfl⟩
                  obtain ⟨gx, hgx⟩ : ∃ gx, gx = gf.text := ⟨_, rfl⟩
                  rw [← hgp] at hd1 hz2 hmay hgE
                  rw [← hgx] at hd2 hgt hmay hg10
                  obtain ⟨M2, hM2⟩ : ∃ M, getT a gp = M := ⟨_, rfl⟩
                  rw [hM2] at hmay
                  have HM2 := Lib.hid hM2
                  have HMY := Lib.hid hmay
                  have HMV2 := Lib.hid (show chTo a b ol tx = some gf → chA a b a [] = chA a b (a.drop (k + 1)) (ol ++ [⟨4, p, gp, [], []⟩]) from fun h => by rw [hgp]; exact HMX.out gf h)
                  have hd1 := keepc hd1 hBq
                  have hd2 := keepc hd2 hBq
                  subst hag2
                  obtain ⟨wg, hwg⟩ : ∃ wg, wg = wr.alloc (.cells #[.string gp, .slice a8 gx.length c8] 62) := ⟨_, rfl⟩
                  obtain ⟨hB1, hsg, hq⟩ := boxed (vs := [.string gp, .slice a8 gx.length c8]) hwg
                  have y0 := hq 0 _ rfl
                  have y1 := hq 1 _ rfl
                  have HWG := Lib.hid hwg
                  have hsg1 : wr.heap.size < wg.heap.size := by omega
                  clear hgf hgp hgx hM2 hmay hwg hq hsg
                  go_wp2_with fail
                  rw [← HWG.out]
                  refine (get_any _ a gp _ (h1.keep (hBq.trans (hB1.mono hBq.size))).rd x1 HM2.out).mono ?_
                  rintro e w5 ⟨vk, rfl, hK, hb5⟩
                  have hB5 := hB1.trans (hb5.mono hB1.size)
                  have hs5 := hB5.size
                  have y0 := keepc y0 hb5
                  have y1 := keepc y1 hb5
                  have q0 := keepc q0 hB5
                  have q1 := keepc q1 hB5
                  obtain ⟨avk, cvk, rfl, _⟩ := hK.shape
                  clear HWG hK hb5 hB1 HM2
                  cases M2 with
                  | some y =>
                    have e2 : (some y : Option (List ByteArray)).isSome = true := rfl
                    rw [e2]
                    have HN := Lib.hid (HT2.out (by rw [HMY.out]; rfl))
                    clear e2
                    go_wp2
                    go_roundw
                    case rel => exact ⟨⟨j + 1, by omega, by go_num, rfl, HN.out⟩, hbq.trans (hB5.mono hsq)⟩
                    case measure => simp [intOf] <;> omega
                  | none =>
                    have e2 : (none : Option (List ByteArray)).isSome = false := rfl
                    rw [e2]
                    clear e2
                    have hgt5 := (hgt.keep hBq).keep (hB5.mono hBq.size)
                    have hft5 := (hft.keep ((hbz.trans (hbq.mono hsz)).mono hB3.size)).keep (hB5.mono hBq.size)
                    by_cases he : gx = tx
                    · have hd := decide_eq_true he
                      have HE9 := Lib.hid he
                      clear he
                      go_wp2_with fail
                      refine (slicesEqual_is _ _ gx tx _ hgt5.rd hft5.rd hd).mono ?_
                      rintro e w6 ⟨rfl, n6, he6⟩
                      have hb6 : Below w5.heap.size w5 w6 := by rw [he6]; exact below_drewN (Below.refl _ _) n6
                      clear he6
                      have hB6 := hB5.trans (hb6.mono hB5.size)
                      have hs6 := hB6.size
                      have y0 := keepc y0 hb6
                      have y1 := keepc y1 hb6
                      have q0 := keepc q0 hb6
                      have q1 := keepc q1 hb6
                      have hF26 := hF2.below hB6 (fun b h _ => (by have := (hbd2 b h).2; omega))
                      cases hc : hasS gp tg with
                      | true =>
                        have HN := Lib.hid (HT2.out (by rw [HMY.out, hc]; simp))
                        go_wp2_with fail
                        refine (containsS_is _ tg gp _ hF26.rd hc).mono ?_
                        rintro e w7 ⟨rfl, rfl⟩
                        go_wp2
                        go_roundw
                        case rel => exact ⟨⟨j + 1, by omega, by go_num, rfl, HN.out⟩, hbq.trans (hB6.mono hsq)⟩
                        case measure => simp [intOf] <;> omega
                      | false =>
                        have HN := Lib.hid (HMV2.out (HT1.out (by rw [HMY.out, hc, HE9.out]; simp)))
                        clear HT1 HT2 HMV2 HMY HE9
                        go_wp2_with fail
                        refine (containsS_is _ tg gp _ hF26.rd hc).mono ?_
                        rintro e w7 ⟨rfl, rfl⟩
                        have hF16 := hF1.below hB6 (fun b h _ => (by have := (hbd1 b h).2; omega))
                        have hbox6 := (hB6.block cb (by omega)).trans hbox
                        have x0 := cell_of_row w6 cb 0 _ _ (0, 0) hbox6
                        have x1' := cell_of_row w6 cb 1 _ _ (0, 0) hbox6
                        have x2' := cell_of_row w6 cb 2 _ _ (0, 0) hbox6
                        have x3 := cell_of_row w6 cb 3 _ _ (0, 0) hbox6
                        have x4 := cell_of_row w6 cb 4 _ _ (0, 0) hbox6
                        have z0 := frozen_of_row w6 cb 0 _ _ hbox6
                        have z1 := frozen_of_row w6 cb 1 _ _ hbox6
                        have z2 := frozen_of_row w6 cb 2 _ _ hbox6
                        have z3 := frozen_of_row w6 cb 3 _ _ hbox6
                        have z4 := frozen_of_row w6 cb 4 _ _ hbox6
                        simp at x0 x1' x2' x3 x4
                        obtain ⟨w7, hw7⟩ : ∃ w7, w7 = (((((w6.setCell ⟨cb, 0, none⟩ (.int .i64 4)).setCell ⟨cb, 1, none⟩ (.string p)).setCell ⟨cb, 2, none⟩ (.string gp)).setCell ⟨cb, 3, none⟩ (.slice none 0 0)).setCell ⟨cb, 4, none⟩ (.slice none 0 0)) := ⟨_, rfl⟩
                        have hbox7 : w7.heap[cb]? = some (.cells #[.int .i64 4, .string p, .string gp, .slice none 0 0, .slice none 0 0] 73 (0, 0)) := by rw [hw7]; exact (heap_setCell_same _ _ 4 _ _ _ (heap_setCell_same _ _ 3 _ _ _ (heap_setCell_same _ _ 2 _ _ _ (heap_setCell_same _ _ 1 _ _ _ (heap_setCell_same _ _ 0 _ _ _ hbox6)))))
                        have hne7 : ∀ b, b ≠ cb → w7.heap[b]? = w6.heap[b]? := fun b hb => by rw [hw7]; exact ((Below.heap_setCell _ _ _ b hb).trans ((Below.heap_setCell _ _ _ b hb).trans ((Below.heap_setCell _ _ _ b hb).trans ((Below.heap_setCell _ _ _ b hb).trans (Below.heap_setCell _ _ _ b hb)))))
                        have hsz7 : w7.heap.size = w6.heap.size := by rw [hw7]; simp [World.setCell]
                        have hB17 : Below w1.heap.size w1 w7 := by rw [hw7]; exact ((((((hBz.trans (hB6.mono hBz.size)).setCell (p := ⟨cb, 0, none⟩) (show w1.heap.size ≤ cb from hw1cb) (.int .i64 4)).setCell (p := ⟨cb, 1, none⟩) (show w1.heap.size ≤ cb from hw1cb) (.string p)).setCell (p := ⟨cb, 2, none⟩) (show w1.heap.size ≤ cb from hw1cb) (.string gp)).setCell (p := ⟨cb, 3, none⟩) (show w1.heap.size ≤ cb from hw1cb) (.slice none 0 0)).setCell (p := ⟨cb, 4, none⟩) (show w1.heap.size ≤ cb from hw1cb) (.slice none 0 0))
                        have hF17 := hF16.keep (w' := w7) (fun b h _ => hne7 b (by have := (hbd1 b h).2; omega))
                        have hF27 := hF26.keep (w' := w7) (fun b h _ => hne7 b (by have := (hbd2 b h).2; omega))
                        have u0 : w7.cell? ⟨wr.heap.size, 0, none⟩ = some (.string gp) := (World.cell?_of_block (w := w6) (hne7 wr.heap.size (by omega))).trans y0
                        have u0' := u0
                        rw [hw7] at u0'
                        have m0 := cell_of_row w7 cb 0 _ _ (0, 0) hbox7
                        have m1 := cell_of_row w7 cb 1 _ _ (0, 0) hbox7
                        have m2 := cell_of_row w7 cb 2 _ _ (0, 0) hbox7
                        have m3 := cell_of_row w7 cb 3 _ _ (0, 0) hbox7
                        have m4 := cell_of_row w7 cb 4 _ _ (0, 0) hbox7
                        simp at m0 m1 m2 m3 m4
                        have hsrc : IsSlice (fun b => b = w7.heap.size) (w7.alloc (.cells #[.string gp] (Tid.tid ByteArray))) (some ⟨w7.heap.size, 0, none⟩) 1 [gp] := lit_strs [gp] (heap_alloc_new _ _) (by simpa using hz2) (by unfold maxLen; simp)
                        have HW7 := Lib.hid hw7
                        have HS7 := Lib.hid hsz7
                        rw [hsz7] at hsrc
                        have hsz7' : w6.heap.size ≤ w7.heap.size := by omega
                        clear hw7 hsz7 hbox6 hbox7 hne7 hF16 hF26
                        go_wp2_with (first
                          | (at_builtin; rw [← HW7.out]; (refine wpList_app_leafS slz_string.slt rfl (.tmp 81) (.tmp 84) rfl rfl (hF27.alloc _) rfl rfl hsrc (by simp; omega) (by unfold maxLen; simp; omega) ?_); intro a6 c6 w8 hG8; have hs8 := hG8.size; rw [World.size_alloc] at hs8; have m0 := hG8.cell (keepc m0 ((Below.refl _ _).alloc (Nat.le_refl _) (.cells #[.string gp] (Tid.tid ByteArray)))) (fun h => (by have h9 := (hbd2 _ h).2; simp at h9; omega)); have m1 := hG8.cell (keepc m1 ((Below.refl _ _).alloc (Nat.le_refl _) (.cells #[.string gp] (Tid.tid ByteArray)))) (fun h => (by have h9 := (hbd2 _ h).2; simp at h9; omega)); have m2 := hG8.cell (keepc m2 ((Below.refl _ _).alloc (Nat.le_refl _) (.cells #[.string gp] (Tid.tid ByteArray)))) (fun h => (by have h9 := (hbd2 _ h).2; simp at h9; omega)); have m3 := hG8.cell (keepc m3 ((Below.refl _ _).alloc (Nat.le_refl _) (.cells #[.string gp] (Tid.tid ByteArray)))) (fun h => (by have h9 := (hbd2 _ h).2; simp at h9; omega)); have m4 := hG8.cell (keepc m4 ((Below.refl _ _).alloc (Nat.le_refl _) (.cells #[.string gp] (Tid.tid ByteArray)))) (fun h => (by have h9 := (hbd2 _ h).2; simp at h9; omega)); have hB18 := (hB17.alloc hB17.size (.cells #[.string gp] (Tid.tid ByteArray))).trans (hG8.below w1.heap.size (by have := hB17.size; simp; omega) (fun b h _ => (hbd2 b h).1)); have hF18 := (show FS S1 w8 [.slice ao ol.length co] ol from (hF17.alloc (.cells #[.string gp] (Tid.tid ByteArray))).keep fun b h hl => hG8.rest b hl fun h2 => hdis b h h2); have hF28 := hG8.fs.mono (T := fun b => (S2 b ∨ w7.heap.size ≤ b) ∧ b < w8.heap.size) (fun b h hl => ⟨by rcases h with h | h; exact .inl h; exact .inr (by simp at h; omega), hl⟩))
                          | (at_builtin; go_must (refine wpList_app_oneS (T := fun b => w8.heap.size ≤ b ∧ b < w8.heap.size) (y := (⟨4, p, gp, [], []⟩ : Change)) slz_change.slt rfl (.tmp 87) (.tmp 89) rfl rfl (hF18.alloc _) rfl (heap_alloc_new _ _) (FS.alloc (Fresh.change (p := ⟨4, p, gp, [], []⟩) (m0 := w8.heap.size) (m1 := w8.heap.size) (i64_1 (n := 4) (by omega)) hz1 hz2 (Fresh.nil (β := ByteArray) _ _ _ Nat.one_pos) (Fresh.nil (β := Hunk) _ _ _ (by decide)) (Nat.le_refl _) (Nat.le_refl _)).fs _) (fun b h1 h2 _ => (by have h3 : w8.heap.size ≤ b ∧ b < w8.heap.size := h2; omega)) (by omega) (by unfold maxLen; omega) ?_); intro a7 c7 w9 g1 g2 g3))
                        have hs9 := (g2 0 (Nat.zero_le _) (fun _ _ _ => Nat.zero_le _)).size
                        rw [World.size_alloc] at hs9
                        have hB9 := (hB18.alloc hB18.size _).trans (g2 w1.heap.size (by have := hB18.size; simp; omega) (fun b h _ => (hbd1 b h).1))
                        have hF29 := (hF28.alloc _).keep (w' := w9) fun b h hl => g3 b hl fun h1 => (by
                          rcases h.1 with h2 | h2
                          · exact hdis b h1 h2
                          · have := hbd1 b h1; omega)
                        have hF19 := g1.mono (T := fun b => (S1 b ∨ w8.heap.size ≤ b) ∧ b < w9.heap.size) (fun b h hl => ⟨by rcases h with h | h | h; exact .inl h; exact .inr h.1; exact .inr (by simp at h; omega), hl⟩)
                        go_roundw
                        case rel => exact ⟨⟨k + 1, ol ++ [(⟨4, p, gp, [], []⟩ : Change)], tg ++ [gp], _, _, by omega, by go_num, by simp; omega, by simp; omega, by simpa using hF19, by simpa using hF29, fun b h h2 => (by
                            rcases h.1 with h1 | h1
                            · rcases h2.1 with h3 | h3
                              · exact hdis b h1 h3
                              · have := hbd1 b h1; omega
                            · have := h2.2; omega), fun b h => (by
                            rcases h with h | h
                            · have h9 := h.2
                              rcases h.1 with h1 | h1
                              · have := hbd1 b h1; omega
                              · omega
                            · have h9 := h.2
                              rcases h.1 with h1 | h1
                              · have := hbd2 b h1; omega
                              · omega), HN.out, goes_to (c := ⟨4, p, gp, [], []⟩) HTG.out⟩, hB9⟩
                        case measure => simp [intOf] <;> omega
                    · have hd := decide_eq_false he
                      have HN := Lib.hid (HT2.out (by rw [HMY.out, decide_eq_false he]; simp))
                      clear he
                      go_wp2_with fail
                      refine (slicesEqual_is _ _ gx tx _ hgt5.rd hft5.rd hd).mono ?_
                      rintro e w6 ⟨rfl, n6, he6⟩
                      have hb6 : Below w5.heap.size w5 w6 := by rw [he6]; exact below_drewN (Below.refl _ _) n6
                      clear he6
                      go_wp2
                      go_roundw
                      case rel => exact ⟨⟨j + 1, by omega, by go_num, rfl, HN.out⟩, hbq.trans ((hB5.trans (hb6.mono hB5.size)).mono hsq)⟩
                      case measure => simp [intOf] <;> omega
                · have HN := Lib.hid (HPX.out (to_end HB.out hlt2))
                  have x0 := cell_of_row wr cb 0 _ _ (0, 0) hbox
                  have x1' := cell_of_row wr cb 1 _ _ (0, 0) hbox
                  have x2' := cell_of_row wr cb 2 _ _ (0, 0) hbox
                  have x3 := cell_of_row wr cb 3 _ _ (0, 0) hbox
                  have x4 := cell_of_row wr cb 4 _ _ (0, 0) hbox
                  simp at x0 x1' x2' x3 x4
                  have hAq := hAz.below (Nat.le_refl _) hbq
                  go_wp2_with (at_builtin; go_must (refine wpList_app_oneS (T := fun b => w3.heap.size ≤ b ∧ b < wz.heap.size) (y := (⟨2, p, ⟨#[]⟩, tx, []⟩ : Change)) slz_change.slt rfl (.tmp 87) (.tmp 89) rfl rfl (hF1.alloc _) rfl (heap_alloc_new _ _) (FS.alloc (Fresh.change (p := ⟨2, p, ⟨#[]⟩, tx, []⟩) (m0 := w3.heap.size) (m1 := wz.heap.size) (m2 := wz.heap.size) (i64_1 (n := 2) (by omega)) hz1 (Nat.zero_le _) hAq (Fresh.nil (β := Hunk) _ _ _ (by decide)) hsz (Nat.le_refl _)).fs _) (fun b h1 h2 _ => (by have := (hbd1 b h1).2; have h3 : w3.heap.size ≤ b ∧ b < wz.heap.size := h2; omega)) (by omega) (by unfold maxLen; omega) ?_); intro a7 c7 w9 g1 g2 g3)
                  have hs9 := (g2 0 (Nat.zero_le _) (fun _ _ _ => Nat.zero_le _)).size
                  rw [World.size_alloc] at hs9
                  have hB9 := (hBz.alloc hBz.size _).trans (g2 w1.heap.size (by have := hBz.size; simp; omega) (fun b h _ => (hbd1 b h).1))
                  have hF29 := (hF2.alloc _).keep (w' := w9) fun b h hl => g3 b hl fun h1 => hdis b h1 h
                  have hF19 := g1.mono (T := fun b => (S1 b ∨ w3.heap.size ≤ b) ∧ b < w9.heap.size) (fun b h hl => ⟨by rcases h with h | h | h; exact .inl h; exact .inr h.1; exact .inr (by simp at h; omega), hl⟩)
                  go_roundw
                  case rel => exact ⟨⟨k + 1, ol ++ [(⟨2, p, ⟨#[]⟩, tx, []⟩ : Change)], tg, _, S2, by omega, by go_num, by simp; omega, by omega, by simpa using hF19, hF29, fun b h h2 => (by
                      rcases h.1 with h1 | h1
                      · exact hdis b h1 h2
                      · have := hbd2 b h2; omega), fun b h => (by
                      rcases h with h | h
                      · have h9 := h.2
                        rcases h.1 with h1 | h1
                        · have := hbd1 b h1; omega
                        · omega
                      · have := hbd2 b h; omega), HN.out, goes_more (c := ⟨2, p, ⟨#[]⟩, tx, []⟩) HTG.out rfl⟩, hB9⟩
                  case measure => simp [intOf] <;> omega
        · have HE9 := Lib.hid (chA_end HA.out hlt)
          have HR0 : Hid (changesOf a b = ol ++ chB a ol (b.drop 0)) := by show _ = _; rw [HD.out, HE9.out]; rfl
          clear HA HE9
          have hkl : ol.length ≤ 8 := by omega
          go_wp2
          go_loopw [5, 114] (fun out i wr => (∃ (k : Nat) (ol2 : List Change) (S3 : Nat → Prop), k ≤ b.length ∧ i = .int .i64 k ∧ ol2.length ≤ 8 + k ∧ FS S3 wr [out] ol2 ∧ FS S2 wr [.slice at_ tg.length ct] tg ∧ (∀ b, S3 b → S2 b → False) ∧ (∀ b, S3 b → w1.heap.size ≤ b ∧ b < wr.heap.size) ∧ Hid (changesOf a b = ol2 ++ chB a ol (b.drop k))) ∧ Below w1.heap.size w1 wr ∧ wo.heap.size ≤ wr.heap.size) (fun _ i _ => b.length - (intOf i).toNat)
          case atStart => exact ⟨⟨0, ol, S1, by omega, rfl, by omega, hF1, hF2, hdis, hbd1, HR0.out⟩, hbr, Nat.le_refl _⟩
          case round =>
            clear hF1 HR0 hBr hbd1 hdis hbd hbr hsr
            have hF20 := hF2
            clear hF2
            obtain ⟨⟨j, ol2, S3, hj, rfl, hol2, hF3, hF2, hdis, hbd3, HB⟩, hbr, hwr⟩ := hrel
            obtain ⟨a3, c3, rfl, _⟩ := rd_slice_elim hF3.rd
            have hsr := hbr.size
            have hBr := hW.trans (hbr.mono hsW)
            by_cases hlt2 : j < b.length
            · obtain ⟨g2, off2, a8, c8, hag2, hd1, hd2, hz2, hgt⟩ := h2.file hlt2
              have HT1 := Lib.hid (chB_yes HB.out hlt2)
              have HT2 := Lib.hid (chB_no HB.out hlt2)
              have hgE := HPF.out b[j] (List.getElem_mem hlt2)
              have hg10 := x2 b[j] (List.getElem_mem hlt2)
              obtain ⟨gf, hgf⟩ : ∃ gf, gf = b[j] := ⟨_, rfl⟩
              rw [← hgf] at hd1 hd2 hz2 hgt HT1 HT2 hgE hg10
              have hnew : newB a ol gf = ((getT a gf.path).isNone && !hasS gf.path tg) := by unfold newB; rw [HTG.out _ hgE]
              obtain ⟨gp, hgp⟩ : ∃ gp, gp = gf.path := ⟨_, rfl⟩
              obtain ⟨gx, hgx⟩ : ∃ gx, gx = gf.text := ⟨_, rfl⟩
              rw [← hgp] at hd1 hz2 hnew hgE HT1
              rw [← hgx] at hd2 hgt hg10 HT1
              obtain ⟨M2, hM2⟩ : ∃ M, getT a gp = M := ⟨_, rfl⟩
              rw [hM2] at hnew
              have HM2 := Lib.hid hM2
              have HNW := Lib.hid hnew
              have hd1 := keepc hd1 hBr
              have hd2 := keepc hd2 hBr
              subst hag2
              obtain ⟨wg, hwg⟩ : ∃ wg, wg = wr.alloc (.cells #[.string gp, .slice a8 gx.length c8] 62) := ⟨_, rfl⟩
              obtain ⟨hB1, hsg, hq⟩ := boxed (vs := [.string gp, .slice a8 gx.length c8]) hwg
              have y0 := hq 0 _ rfl
              have y1 := hq 1 _ rfl
              have HWG := Lib.hid hwg
              have hsg1 : wr.heap.size < wg.heap.size := by omega
              clear hgf hgp hgx hM2 hnew hwg hq hsg
              go_wp2_with fail
              rw [← HWG.out]
              refine (get_any _ a gp _ (h1.keep (hBr.trans (hB1.mono hBr.size))).rd x1 HM2.out).mono ?_
              rintro e w5 ⟨vk, rfl, hK, hb5⟩
              have hB5 := hB1.trans (hb5.mono hB1.size)
              have hs5 := hB5.size
              have hs5' : wr.heap.size < w5.heap.size := by have := hb5.size; omega
              have y0 := keepc y0 hb5
              have y1 := keepc y1 hb5
              have hF3 := hF3.below hB5 (fun b h _ => (hbd3 b h).2)
              have hF25 := hF2.below hB5 (fun b h hl => hl)
              have hb15 := hbr.trans (hB5.mono hsr)
              obtain ⟨avk, cvk, rfl, _⟩ := hK.shape
              clear HWG hK hb5 hB1 HM2
              cases M2 with
              | some y =>
                have e2 : (some y : Option (List ByteArray)).isSome = true := rfl
                rw [e2]
                have HN := Lib.hid (HT2.out (by rw [HNW.out]; rfl))
                clear e2
                go_wp2
                go_roundw
                case rel => exact ⟨⟨j + 1, ol2, S3, by omega, by go_num, by omega, hF3, hF25, hdis, fun b h => (by have := hbd3 b h; omega), HN.out⟩, hb15, by omega⟩
                case measure => simp [intOf] <;> omega
              | none =>
                have e2 : (none : Option (List ByteArray)).isSome = false := rfl
                rw [e2]
                clear e2
                cases hc : hasS gp tg with
                | true =>
                  have HN := Lib.hid (HT2.out (by rw [HNW.out, hc]; rfl))
                  go_wp2_with fail
                  refine (containsS_is _ tg gp _ hF25.rd hc).mono ?_
                  rintro e w7 ⟨rfl, rfl⟩
                  go_wp2
                  go_roundw
                  case rel => exact ⟨⟨j + 1, ol2, S3, by omega, by go_num, by omega, hF3, hF25, hdis, fun b h => (by have := hbd3 b h; omega), HN.out⟩, hb15, by omega⟩
                  case measure => simp [intOf] <;> omega
                | false =>
                  have HN := Lib.hid (HT1.out (by rw [HNW.out, hc]; rfl))
                  have hgt5 := (hgt.keep hBr).keep (hB5.mono hBr.size)
                  clear HT1 HT2 HNW
                  go_wp2_with fail
                  refine (containsS_is _ tg gp _ hF25.rd hc).mono ?_
                  rintro e w7 ⟨rfl, rfl⟩
                  clear hc
                  go_wp2_with fail
                  first
                  | (
                    go_region_held3 (fun w' => w'.cell? ⟨wr.heap.size, 0, none⟩ = some (.string gp) ∧ w'.cell? ⟨wr.heap.size, 1, none⟩ = some (.slice a8 gx.length c8))
                      (first | with_reducible exact K9 | with_reducible exact KA | with_reducible exact ⟨y0, y1⟩ | go_keep)
                      (first
                        | (go_at_call 43; refine (copyText_any _ gx _ (Rep.drew hgt5.rd) (by omega)).mono ?_; rintro e wA ⟨aA, cA, rfl, hA, hbA⟩; have hszA := hbA.size; have KA := And.intro (keepc (w := w5.drew) y0 hbA) (keepc (w := w5.drew) y1 hbA))
                        | (refine step_app_oneS (T := fun b => w5.heap.size ≤ b ∧ b < wA.heap.size) (y := (⟨1, gp, ⟨#[]⟩, gx, []⟩ : Change)) slz_change.slt rfl (.tmp 134) (.tmp 141) rfl rfl (((hF3.drew).below hbA (fun b h _ => (by have := (hbd3 b h).2; simp; omega))).alloc _) rfl (heap_alloc_new _ _) (FS.alloc (Fresh.change (p := ⟨1, gp, ⟨#[]⟩, gx, []⟩) (m0 := w5.heap.size) (m1 := wA.heap.size) (m2 := wA.heap.size) (i64_1 (n := 1) (by omega)) hz2 (Nat.zero_le _) hA (Fresh.nil (β := Hunk) _ _ _ (by decide)) (by simpa using hszA) (Nat.le_refl _)).fs _) (fun b h1 h2 _ => (by have := (hbd3 b h1).2; have h3 : w5.heap.size ≤ b ∧ b < wA.heap.size := h2; omega)) (by omega) (by unfold maxLen; omega) ?_; intro a7 c7 w9 g1 g2 g3; have K9 := And.intro ((World.cell?_of_block (w := wA.alloc _) (g3 wr.heap.size (by simp at hszA ⊢; omega) (fun h => (by have := hbd3 _ h; omega)))).trans (keepc KA.1 ((Below.refl _ _).alloc (Nat.le_refl _) _))) ((World.cell?_of_block (w := wA.alloc _) (g3 wr.heap.size (by simp at hszA ⊢; omega) (fun h => (by have := hbd3 _ h; omega)))).trans (keepc KA.2 ((Below.refl _ _).alloc (Nat.le_refl _) _)))))
                    )
                  | fail
                  all_goals
                    have hs9 := (g2 0 (Nat.zero_le _) (fun _ _ _ => Nat.zero_le _)).size
                    rw [World.size_alloc] at hs9
                    have hbA2 : Below w5.heap.size w5 wA := (Below.refl _ _).drew.trans (hbA.mono (by simp))
                    have hAs := hbA2.size
                    have hB9 := ((hb15.trans (hbA2.mono (by omega))).alloc (by have := hb15.size; omega) (.cells #[.int .i64 1, .string gp, .string ⟨#[]⟩, .slice aA gx.length cA, .slice none 0 0] 73)).trans (g2 w1.heap.size (by have := hb15.size; simp; omega) (fun b h _ => (hbd3 b h).1))
                    have hF29 := ((hF25.below hbA2 (fun b h hl => hl)).alloc (.cells #[.int .i64 1, .string gp, .string ⟨#[]⟩, .slice aA gx.length cA, .slice none 0 0] 73)).keep (w' := w9) fun b h hl => g3 b hl fun h1 => hdis b h1 h
                    have hF39 := g1.mono (T := fun b => (S3 b ∨ w5.heap.size ≤ b) ∧ b < w9.heap.size) (fun b h hl => ⟨by rcases h with h | h | h; exact .inl h; exact .inr h.1; exact .inr (by simp at h; omega), hl⟩)
                    clear K9 KA g1 g2 g3 hA
                    go_wp2
                    go_roundw
                    case rel => exact ⟨⟨j + 1, ol2 ++ [(⟨1, gp, ⟨#[]⟩, gx, []⟩ : Change)], _, by omega, by go_num, by simp; omega, by simpa using hF39, hF29, fun b h h2 => (by
                        rcases h.1 with h1 | h1
                        · exact hdis b h1 h2
                        · have := (hbd2 b h2).2; omega), fun b h => (by
                        have h9 := h.2
                        rcases h.1 with h1 | h1
                        · have := hbd3 b h1; omega
                        · have := hb15.size; omega), HN.out⟩, hB9, by omega⟩
                    case measure => simp [intOf] <;> omega
            · have HN := Lib.hid (chB_end HB.out hlt2)
              have hFr := hF3.fresh (B := w.heap.size) (m := wr.heap.size) (fun b h _ => by have := hbd3 b h; omega)
              go_wp2
              go_ret
              exact ⟨_, rfl, by rw [HN.out]; exact hFr, hBr⟩
end Go.Proofs.YtlpfoekbccbhlaaGreatDoor
