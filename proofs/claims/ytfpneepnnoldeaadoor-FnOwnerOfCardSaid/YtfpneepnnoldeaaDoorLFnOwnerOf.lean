/-
  The walk of a law: FnOwnerOf.
-/
import Derived.Test.YtfpneepnnoldeaaDoorDrawOL
import Derived.Test.YtfpneepnnoldeaaDoorWOwnI
import Derived.Test.YtfpneepnnoldeaaDoorWOwnO
set_option linter.unusedVariables false
namespace Go.Proofs.YtfpneepnnoldeaaDoor
open Go.RowKit Go.Vc
open Go.Vc.Rep (rd)
open Go.Vc.Own (own)

set_option maxHeartbeats 8000000 in
set_option maxRecDepth 100000 in
theorem lawFnOwnerOf (v0 : Value) (bs : List UInt8) (w : World) (h0 : rd (fun b => b < w.heap.size) w [v0] bs) (hM : ML w) :
    Calls Tryd.prog 3 #[v0] w fun e w' => e = .returned (.bool true) ∧ Below w.heap.size w w' := by
  obtain ⟨a0, c0, rfl, hs0⟩ := rd_slice_elim h0
  have hle := hs0.le
  by_cases hbig : 1048576 < bs.length
  · go_enter Tryd.func3, Tryd.ntmps3
    go_wp2
    go_ret
    exact ⟨rfl, Below.refl _ _⟩
  go_enter Tryd.func3, Tryd.ntmps3
  go_wp2_with fail
  refine (drawOwnerOf_any _ bs w h0 (by omega)).mono ?_
  rintro e w0 ⟨v, xs, path, rfl, hl5, hSo, hz, hx, HB⟩
  have hx := Rep.lt hx
  have hM := hM.keep HB
  have hS : ∀ o, o ∈ xs → ShortS o.path := fun o ho => short_of (by have := hSo o ho; omega)
  have hz9 : path.size ≤ maxLen := by unfold maxLen; omega
  have hzS : ShortS path := short_of (by omega)
  obtain ⟨r, hr⟩ : ∃ r, ownerOf xs path = r := ⟨_, rfl⟩
  have hrr : decide (r = r) = true := decide_eq_true rfl
  have HR := Lib.hid hr
  clear h0 hs0 hle hbig hSo hr
  go_wp2_with fail
  refine (implOwnerOf _ xs path _ hx hS hzS hM HR.out).mono ?_
  rintro e w1 ⟨rfl, hb1⟩
  have hx := Rep.lt (Rep.keep hx hb1)
  have hM := ML.keep hM hb1
  have HB := HB.trans (hb1.mono HB.size)
  go_wp2_with fail
  refine (specOwnerOf _ xs path _ hx hz9 HR.out).mono ?_
  rintro e w2 ⟨rfl, hb2⟩
  have hx := Rep.lt (Rep.keep hx hb2)
  have hM := ML.keep hM hb2
  have HB := HB.trans (hb2.mono HB.size)
  cases hO : ownersB xs with
  | false =>
    go_wp2_with fail
    refine (ownersOk_is _ xs _ hx hS hM hO).mono ?_
    rintro e w3 ⟨rfl, hb3⟩
    have hx := Rep.lt (Rep.keep hx hb3)
    have hM := ML.keep hM hb3
    have HB := HB.trans (hb3.mono HB.size)
    go_wp2_with fail
    refine (specOwnersOk_is _ xs _ hx hO).mono ?_
    rintro e w4 ⟨rfl, hb4⟩
    have hx := Rep.lt (Rep.keep hx hb4)
    have hM := ML.keep hM hb4
    have HB := HB.trans (hb4.mono HB.size)
    go_wp2_with fail
    refine (ownersOk_is _ xs _ hx hS hM hO).mono ?_
    rintro e w5 ⟨rfl, hb5⟩
    have hx := Rep.lt (Rep.keep hx hb5)
    have hM := ML.keep hM hb5
    have HB := HB.trans (hb5.mono HB.size)
    go_wp2_with fail
    refine (specOwnerOf _ xs path _ hx hz9 HR.out).mono ?_
    rintro e w6 ⟨rfl, hb6⟩
    have hx := Rep.lt (Rep.keep hx hb6)
    have hM := ML.keep hM hb6
    have HB := HB.trans (hb6.mono HB.size)
    go_wp2_with fail
    refine (ownersOk_is _ xs _ hx hS hM hO).mono ?_
    rintro e w7 ⟨rfl, hb7⟩
    have hx := Rep.lt (Rep.keep hx hb7)
    have hM := ML.keep hM hb7
    have HB := HB.trans (hb7.mono HB.size)
    go_wp2_with fail
    refine (specOwnersOk_is _ xs _ hx hO).mono ?_
    rintro e w8 ⟨rfl, hb8⟩
    have hx := Rep.lt (Rep.keep hx hb8)
    have hM := ML.keep hM hb8
    have HB := HB.trans (hb8.mono HB.size)
    go_wp2
    go_ret
    exact ⟨rfl, HB⟩
  | true =>
    go_wp2_with fail
    refine (ownersOk_is _ xs _ hx hS hM hO).mono ?_
    rintro e w9 ⟨rfl, hb9⟩
    have hx := Rep.lt (Rep.keep hx hb9)
    have hM := ML.keep hM hb9
    have HB := HB.trans (hb9.mono HB.size)
    go_wp2_with fail
    refine (specOwnersOk_is _ xs _ hx hO).mono ?_
    rintro e w10 ⟨rfl, hb10⟩
    have hx := Rep.lt (Rep.keep hx hb10)
    have hM := ML.keep hM hb10
    have HB := HB.trans (hb10.mono HB.size)
    go_wp2_with fail
    refine (ownersOk_is _ xs _ hx hS hM hO).mono ?_
    rintro e w11 ⟨rfl, hb11⟩
    have hx := Rep.lt (Rep.keep hx hb11)
    have hM := ML.keep hM hb11
    have HB := HB.trans (hb11.mono HB.size)
    cases hPB : pathB path with
    | false =>
      go_wp2_with fail
      refine (pathOk_is path _ hzS hM hPB).mono ?_
      rintro e w12 ⟨rfl, hb12⟩
      have hx := Rep.lt (Rep.keep hx hb12)
      have hM := ML.keep hM hb12
      have HB := HB.trans (hb12.mono HB.size)
      go_wp2_with fail
      refine (specOwnerOf _ xs path _ hx hz9 HR.out).mono ?_
      rintro e w13 ⟨rfl, hb13⟩
      have hx := Rep.lt (Rep.keep hx hb13)
      have hM := ML.keep hM hb13
      have HB := HB.trans (hb13.mono HB.size)
      go_wp2_with fail
      refine (ownersOk_is _ xs _ hx hS hM hO).mono ?_
      rintro e w14 ⟨rfl, hb14⟩
      have hx := Rep.lt (Rep.keep hx hb14)
      have hM := ML.keep hM hb14
      have HB := HB.trans (hb14.mono HB.size)
      go_wp2_with fail
      refine (specOwnersOk_is _ xs _ hx hO).mono ?_
      rintro e w15 ⟨rfl, hb15⟩
      have hx := Rep.lt (Rep.keep hx hb15)
      have hM := ML.keep hM hb15
      have HB := HB.trans (hb15.mono HB.size)
      go_wp2
      go_ret
      exact ⟨rfl, HB⟩
    | true =>
      go_wp2_with fail
      refine (pathOk_is path _ hzS hM hPB).mono ?_
      rintro e w16 ⟨rfl, hb16⟩
      have hx := Rep.lt (Rep.keep hx hb16)
      have hM := ML.keep hM hb16
      have HB := HB.trans (hb16.mono HB.size)
      have HB0 : Hid (r = bestG path ⟨#[]⟩ (ByteArray.size ⟨#[]⟩) (xs.drop 0)) := by show r = _; rw [← HR.out, owner_yes hO hPB]; rfl
      have HPT := Lib.hid (fun (k : Nat) (hk : k < xs.length) => owners_paths hO hk)
      obtain ⟨a, c, rfl, hs⟩ := rd_slice_elim hx
      have hsz := HB.size
      clear hO
      go_wp2
      go_loopw [6, 7, 8] (fun lg wt i wr => (∃ (k : Nat) (long who : ByteArray), k ≤ xs.length ∧ i = .int .i64 k ∧ lg = .string long ∧ wt = .string who ∧ Hid (r = bestG path who long.size (xs.drop k))) ∧ Below w16.heap.size w16 wr) (fun _ _ i _ => xs.length - (intOf i).toNat)
      case atStart => exact ⟨⟨0, ⟨#[]⟩, ⟨#[]⟩, by omega, rfl, rfl, rfl, HB0.out⟩, Below.refl _ _⟩
      case round =>
        obtain ⟨⟨k, long, who, hk, rfl, rfl, rfl, HA⟩, hbr⟩ := hrel
        have hsr := hbr.size
        have hMr := hM.keep hbr
        by_cases hlt : k < xs.length
        · obtain ⟨g, off, rfl, hc1, hc2, hz1, hz2⟩ := (hs.keep hbr).owner hlt
          have hsk := hS _ (List.getElem_mem hlt)
          have hpk := HPT.out k hlt
          have HPI := Lib.hid (pathIn_ok (p := path) hpk hPB)
          have HIA : Hid (ownsB path xs[k] = (decide (xs[k].path = path) || inB xs[k].path path)) := rfl
          have HMM := fun h1 h2 => best_more HA.out hlt h1 h2
          have HNN := fun h1 => best_not HA.out hlt h1
          have HLL := fun h2 => best_less HA.out hlt h2
          obtain ⟨o, ho⟩ : ∃ o, o = xs[k] := ⟨_, rfl⟩
          rw [← ho] at hc1 hc2 hz1 hz2 hsk HPI HIA HMM HNN HLL
          have HM := Lib.hid HMM
          have HNo := Lib.hid HNN
          have HL := Lib.hid HLL
          clear ho HMM HNN HLL hpk HA
          by_cases he : o.path = path
          · have hd : decide (o.path = path) = true := decide_eq_true he
            have howns : ownsB path o = true := by rw [HIA.out, hd]; rfl
            have hsz9 : path.size = o.path.size := by rw [he]
            clear hsz9 he
            by_cases hn : long.size < o.path.size
            · have HN := Lib.hid (HM.out howns hn)
              have hd2 : decide (long.size < o.path.size) = true := decide_eq_true hn
              clear howns hn
              go_wp2
              go_roundw
              case rel => exact ⟨⟨k + 1, o.path, o.who, by omega, by go_num, rfl, rfl, HN.out⟩, hbr⟩
              case measure => simp [intOf] <;> omega
            · have HN := Lib.hid (HL.out hn)
              have hd2 : decide (long.size < o.path.size) = false := decide_eq_false hn
              clear howns hn
              go_wp2
              go_roundw
              case rel => exact ⟨⟨k + 1, long, who, by omega, by go_num, rfl, rfl, HN.out⟩, hbr⟩
              case measure => simp [intOf] <;> omega
          · have hd : decide (o.path = path) = false := decide_eq_false he
            clear he
            cases hin : inB o.path path with
            | true =>
              have howns : ownsB path o = true := by rw [HIA.out, hd, hin]; rfl
              go_wp2_with fail
              refine (pathIn_is _ _ _ hsk hzS hMr (HPI.out.trans hin)).mono ?_
              rintro e w8 ⟨rfl, hb8⟩
              have hbr := hbr.trans (hb8.mono hsr)
              have hc1 := keepc hc1 hb8
              have hc2 := keepc hc2 hb8
              by_cases hn : long.size < o.path.size
              · have HN := Lib.hid (HM.out howns hn)
                have hd2 : decide (long.size < o.path.size) = true := decide_eq_true hn
                clear howns hn
                go_wp2
                go_roundw
                case rel => exact ⟨⟨k + 1, o.path, o.who, by omega, by go_num, rfl, rfl, HN.out⟩, hbr⟩
                case measure => simp [intOf] <;> omega
              · have HN := Lib.hid (HL.out hn)
                have hd2 : decide (long.size < o.path.size) = false := decide_eq_false hn
                clear howns hn
                go_wp2
                go_roundw
                case rel => exact ⟨⟨k + 1, long, who, by omega, by go_num, rfl, rfl, HN.out⟩, hbr⟩
                case measure => simp [intOf] <;> omega
            | false =>
              have HN := Lib.hid (HNo.out (by rw [HIA.out, hd, hin]; rfl))
              go_wp2_with fail
              refine (pathIn_is _ _ _ hsk hzS hMr (HPI.out.trans hin)).mono ?_
              rintro e w8 ⟨rfl, hb8⟩
              have hbr := hbr.trans (hb8.mono hsr)
              go_wp2
              go_roundw
              case rel => exact ⟨⟨k + 1, long, who, by omega, by go_num, rfl, rfl, HN.out⟩, hbr⟩
              case measure => simp [intOf] <;> omega
        · have hmx := best_end HA.out hlt
          have hmm : decide (r = who) = true := decide_eq_true hmx
          clear hmx
          go_wp2
          go_ret
          exact ⟨rfl, HB.trans (hbr.mono hsz)⟩
end Go.Proofs.YtfpneepnnoldeaaDoor
