/-
  Walks: who owns a path, as the program has it.
-/
import Derived.Test.YtfpneepnnoldeaaDoorWOwnO
set_option linter.unusedVariables false
namespace Go.Vc
open Go.RowKit
/-- a row of two cells, both written -/
theorem stored2 {w : World} {E : Nat} {e : TypeId} {u0 u1 : Value} (h : w.heap[E]? = some (.cells #[u0, u1] e (0, 0))) (A B : Value) :
    ((w.setCell ⟨E, 0, none⟩ A).setCell ⟨E, 1, none⟩ B).heap[E]? = some (.cells #[A, B] e (0, 0)) := by
  have h1 := heap_setCell_same w E 0 _ _ A h
  have h2 := heap_setCell_same _ E 1 _ _ B h1
  rw [h2]
  rfl
end Go.Vc
namespace Go.Proofs.YtfpneepnnoldeaaDoor
open Go.RowKit Go.Vc
open Go.Vc.Rep (rd)
open Go.Vc.Own (own)

set_option maxHeartbeats 8000000 in
set_option maxRecDepth 100000 in
theorem implOwnerOf {S : Nat → Prop} (v : Value) (xs : List Owner) (path : ByteArray) (w : World) (hv : rd S w [v] xs) (hS : ∀ x, x ∈ xs → ShortS x.path) (hsp : ShortS path) (hM : ML w) {r : ByteArray} (hr : ownerOf xs path = r) :
    Calls Tryd.prog 13 #[v, .string path] w fun e w' => e = .returned (.string r) ∧ Below w.heap.size w w' := by
  have hv := Rep.lt hv
  cases hb : ownersB xs with
  | false =>
    rw [owner_no1 hb] at hr
    subst hr
    go_enter Tryd.func13, Tryd.ntmps13
    go_wp2_with fail
    refine (ownersOk_is _ xs _ hv hS hM hb).mono ?_
    rintro e w1 ⟨rfl, hb1⟩
    go_wp2
    go_ret
    exact ⟨rfl, hb1⟩
  | true =>
    cases hp : pathB path with
    | false =>
      rw [owner_no2 hp] at hr
      subst hr
      go_enter Tryd.func13, Tryd.ntmps13
      go_wp2_with fail
      refine (ownersOk_is _ xs _ hv hS hM hb).mono ?_
      rintro e w1 ⟨rfl, hb1⟩
      go_wp2_with fail
      refine (pathOk_is path _ hsp (hM.keep hb1) hp).mono ?_
      rintro e w2 ⟨rfl, hb2⟩
      go_wp2
      go_ret
      exact ⟨rfl, hb1.trans (hb2.mono hb1.size)⟩
    | true =>
      rw [owner_yes hb hp] at hr
      have HR : Hid (r = bestG path ⟨#[]⟩ 0 (xs.drop 0)) := hr.symm
      have HPP := Lib.hid (fun (k : Nat) (hk : k < xs.length) => pathIn_ok (d := xs[k].path) (p := path) (owners_paths hb hk) hp)
      clear hr
      obtain ⟨a, cap, rfl, hs⟩ := rd_slice_elim hv
      have hle := hs.le
      go_enter Tryd.func13, Tryd.ntmps13
      go_wp2_with fail
      refine (ownersOk_is _ xs _ hv hS hM hb).mono ?_
      rintro e w1 ⟨rfl, hb1⟩
      go_wp2_with fail
      refine (pathOk_is path _ hsp (hM.keep hb1) hp).mono ?_
      rintro e w2 ⟨rfl, hb2⟩
      have HB := hb1.trans (hb2.mono hb1.size)
      have hM2 := (hM.keep hb1).keep hb2
      have hs2 := HB.size
      have hlit : (w2.alloc (.cells #[.string ⟨#[]⟩, .string ⟨#[]⟩] 30)).heap[w2.heap.size]? = some (.cells #[.string ⟨#[]⟩, .string ⟨#[]⟩] 30 (0, 0)) := heap_alloc_new _ _
      have hB0 := (Below.refl w2.heap.size w2).alloc (Nat.le_refl _) (.cells #[.string ⟨#[]⟩, .string ⟨#[]⟩] 30)
      clear hb1 hb2 hp hb
      go_wp2
      go_loopw [18] (fun i wr => (∃ (k : Nat) (bp who : ByteArray), k ≤ xs.length ∧ i = .int .i64 k ∧ bp.size ≤ 9223372036854775807 ∧ wr.heap[w2.heap.size]? = some (.cells #[.string bp, .string who] 30 (0, 0)) ∧ Hid (r = bestG path who bp.size (xs.drop k))) ∧ Below w2.heap.size w2 wr) (fun i _ => xs.length - (intOf i).toNat)
      case atStart => exact ⟨⟨0, _, _, by omega, rfl, (by show 0 ≤ _; omega), hlit, HR.out⟩, hB0⟩
      case round =>
        clear hlit hB0
        obtain ⟨⟨k, bp, who, hk, rfl, hbp, hrow, HA⟩, hbr⟩ := hrel
        have hsr := hbr.size
        have hb := HB.trans (hbr.mono hs2)
        have hbl := (Array.getElem?_eq_some_iff.1 hrow).1
        by_cases hlt : k < xs.length
        · obtain ⟨g, off, rfl, hc1, hc2, hz1, hz2⟩ := (hs.keep hb).owner hlt
          have hso := hS _ (List.getElem_mem hlt)
          have hpi := HPP.out k hlt
          have HM := fun h1 h2 => best_more HA.out hlt h1 h2
          have HN := fun h1 => best_not HA.out hlt h1
          have HL := fun h2 => best_less HA.out hlt h2
          obtain ⟨o, ho⟩ : ∃ o, o = xs[k] := ⟨_, rfl⟩
          rw [← ho] at hc1 hc2 hz1 hz2 hso hpi HM HN HL
          have HM := Lib.hid HM
          have HN := Lib.hid HN
          have HL := Lib.hid HL
          have HPI := Lib.hid hpi
          have hzm : o.path.size ≤ 9223372036854775807 := by unfold maxLen at hz1; omega
          clear ho HA hpi
          obtain ⟨wc, hwc⟩ : ∃ wc, wc = wr.alloc (.cells #[.string o.path, .string o.who] 30) := ⟨_, rfl⟩
          obtain ⟨hB1, hsc, hq1⟩ := boxed (vs := [.string o.path, .string o.who]) hwc
          have p0 := hq1 0 _ rfl
          have p1 := hq1 1 _ rfl
          have r00 : wr.cell? ⟨w2.heap.size, 0, none⟩ = some (.string bp) := by rw [cell_of_row _ _ 0 _ _ (0, 0) hrow]; rfl
          have r10 : wr.cell? ⟨w2.heap.size, 1, none⟩ = some (.string who) := by rw [cell_of_row _ _ 1 _ _ (0, 0) hrow]; rfl
          have f00 : wr.frozen? ⟨w2.heap.size, 0, none⟩ = false := frozen_of_row _ _ 0 _ _ hrow
          have f10 : wr.frozen? ⟨w2.heap.size, 1, none⟩ = false := frozen_of_row _ _ 1 _ _ hrow
          have hrow0 := hrow
          have hbr0 := hbr
          have hrow := (hB1.block _ hbl).trans hrow
          have hbr := hbr.trans (hB1.mono hsr)
          have hMc := hM2.keep hbr
          have hsr' := hbr.size
          have hblc : w2.heap.size < wc.heap.size := by omega
          have hne : w2.heap.size < wr.heap.size := hbl
          have HWC := Lib.hid hwc
          clear hq1 hsc hwc
          by_cases he : o.path = path
          · have hd : decide (o.path = path) = true := decide_eq_true he
            have HO : ownsB path o = true := by unfold ownsB; rw [hd]; rfl
            clear he
            have hwc := HWC.out
            clear HWC
            subst hwc
            by_cases hgt : bp.size < o.path.size
            · have HN2 := Lib.hid (HM.out HO hgt)
              have hg2 : decide (bp.size < o.path.size) = true := decide_eq_true hgt
              clear HO HM HN HL
              have r0 : (wr.alloc (.cells #[.string o.path, .string o.who] 30)).cell? ⟨w2.heap.size, 0, none⟩ = some (.string bp) := by rw [cell_of_row _ _ 0 _ _ (0, 0) hrow]; rfl
              have r1 : (wr.alloc (.cells #[.string o.path, .string o.who] 30)).cell? ⟨w2.heap.size, 1, none⟩ = some (.string who) := by rw [cell_of_row _ _ 1 _ _ (0, 0) hrow]; rfl
              have f0 : (wr.alloc (.cells #[.string o.path, .string o.who] 30)).frozen? ⟨w2.heap.size, 0, none⟩ = false := frozen_of_row _ _ 0 _ _ hrow
              have f1 : (wr.alloc (.cells #[.string o.path, .string o.who] 30)).frozen? ⟨w2.heap.size, 1, none⟩ = false := frozen_of_row _ _ 1 _ _ hrow
              go_wp2
              go_roundw
              case rel => exact ⟨⟨k + 1, o.path, o.who, by omega, by go_num, hzm, (Below.heap_alloc _ _ _ (by simp [World.setCell]; omega)).trans (stored2 hrow0 _ _), HN2.out⟩, ((hbr0.setCell (Nat.le_refl _) _).setCell (Nat.le_refl _) _).alloc (by simp [World.setCell]; omega) _⟩
              case measure => simp [intOf] <;> omega
            · have HN2 := Lib.hid (HL.out hgt)
              have hg2 : decide (bp.size < o.path.size) = false := decide_eq_false hgt
              clear HO HM HN HL
              have r0 : (wr.alloc (.cells #[.string o.path, .string o.who] 30)).cell? ⟨w2.heap.size, 0, none⟩ = some (.string bp) := by rw [cell_of_row _ _ 0 _ _ (0, 0) hrow]; rfl
              go_wp2
              go_roundw
              case rel => exact ⟨⟨k + 1, bp, who, by omega, by go_num, hbp, hrow, HN2.out⟩, hbr⟩
              case measure => simp [intOf] <;> omega
          · have hd : decide (o.path = path) = false := decide_eq_false he
            have HO : ownsB path o = inB o.path path := by unfold ownsB; rw [hd]; rfl
            clear he
            cases hin : inB o.path path with
            | false =>
              have HN2 := Lib.hid (HN.out (HO.trans hin))
              clear HO HM HN HL
              go_wp2_with fail
              rw [← HWC.out]
              refine (pathIn_is _ _ _ hso hsp hMc (HPI.out.trans hin)).mono ?_
              rintro e w3 ⟨rfl, hb3⟩
              have p0 := keepc p0 hb3
              have p1 := keepc p1 hb3
              have hrow := (hb3.block _ hblc).trans hrow
              have hbr := hbr.trans (hb3.mono hsr')
              go_wp2
              go_roundw
              case rel => exact ⟨⟨k + 1, bp, who, by omega, by go_num, hbp, hrow, HN2.out⟩, hbr⟩
              case measure => simp [intOf] <;> omega
            | true =>
              by_cases hgt : bp.size < o.path.size
              · have HN2 := Lib.hid (HM.out (HO.trans hin) hgt)
                have hg2 : decide (bp.size < o.path.size) = true := decide_eq_true hgt
                clear HO HM HN HL
                go_wp2_with fail
                rw [← HWC.out]
                refine (pathIn_is _ _ _ hso hsp hMc (HPI.out.trans hin)).mono ?_
                rintro e w3 ⟨rfl, hb3⟩
                have p0 := keepc p0 hb3
                have p1 := keepc p1 hb3
                have hrow := (hb3.block _ hblc).trans hrow
                have hbr := hbr.trans (hb3.mono hsr')
                have r0 : w3.cell? ⟨w2.heap.size, 0, none⟩ = some (.string bp) := by rw [cell_of_row _ _ 0 _ _ (0, 0) hrow]; rfl
                have r1 : w3.cell? ⟨w2.heap.size, 1, none⟩ = some (.string who) := by rw [cell_of_row _ _ 1 _ _ (0, 0) hrow]; rfl
                have f0 : w3.frozen? ⟨w2.heap.size, 0, none⟩ = false := frozen_of_row _ _ 0 _ _ hrow
                have f1 : w3.frozen? ⟨w2.heap.size, 1, none⟩ = false := frozen_of_row _ _ 1 _ _ hrow
                go_wp2
                go_roundw
                case rel => exact ⟨⟨k + 1, o.path, o.who, by omega, by go_num, hzm, stored2 hrow _ _, HN2.out⟩, (hbr.setCell (Nat.le_refl _) _).setCell (Nat.le_refl _) _⟩
                case measure => simp [intOf] <;> omega
              · have HN2 := Lib.hid (HL.out hgt)
                have hg2 : decide (bp.size < o.path.size) = false := decide_eq_false hgt
                clear HO HM HN HL
                go_wp2_with fail
                rw [← HWC.out]
                refine (pathIn_is _ _ _ hso hsp hMc (HPI.out.trans hin)).mono ?_
                rintro e w3 ⟨rfl, hb3⟩
                have p0 := keepc p0 hb3
                have p1 := keepc p1 hb3
                have hrow := (hb3.block _ hblc).trans hrow
                have hbr := hbr.trans (hb3.mono hsr')
                have r0 : w3.cell? ⟨w2.heap.size, 0, none⟩ = some (.string bp) := by rw [cell_of_row _ _ 0 _ _ (0, 0) hrow]; rfl
                go_wp2
                go_roundw
                case rel => exact ⟨⟨k + 1, bp, who, by omega, by go_num, hbp, hrow, HN2.out⟩, hbr⟩
                case measure => simp [intOf] <;> omega
        · have HN := Lib.hid (best_end HA.out hlt)
          have r1 : wr.cell? ⟨w2.heap.size, 1, none⟩ = some (.string who) := by rw [cell_of_row _ _ 1 _ _ (0, 0) hrow]; rfl
          go_wp2
          go_ret
          exact ⟨by rw [HN.out]; rfl, hb⟩
end Go.Proofs.YtfpneepnnoldeaaDoor
