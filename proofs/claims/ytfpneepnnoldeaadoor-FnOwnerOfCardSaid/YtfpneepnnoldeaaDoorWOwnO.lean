/-
  Walks: who owns a path.
-/
import Derived.Test.YtfpneepnnoldeaaDoorWOwn
import Derived.Test.YtfpneepnnoldeaaDoorPlOwn
import Derived.Test.YtfpneepnnoldeaaDoorVI
set_option linter.unusedVariables false
namespace Go.Proofs.YtfpneepnnoldeaaDoor
open Go.RowKit Go.Vc
open Go.Vc.Rep (rd)
open Go.Vc.Own (own)
theorem ownersOk_is {S : Nat → Prop} (v : Value) (xs : List Owner) (w : World) (hv : rd S w [v] xs) (hS : ∀ x, x ∈ xs → ShortS x.path) (hM : ML w) {b : Bool} (h : ownersB xs = b) :
    Calls Tryd.prog 15 #[v] w fun e w' => e = .returned (.bool b) ∧ Below w.heap.size w w' := by rw [← h]; exact implOwnersOk v xs w hv hS hM
theorem l17Owners_is {S : Nat → Prop} (v : Value) (xs : List Owner) (w : World) (hv : rd S w [v] xs) {b : Bool} (h : ownersB xs = b) :
    Calls Tryd.prog 57 #[v] w fun e w' => e = .returned (.bool b) ∧ Below w.heap.size w w' := by rw [← h]; exact l17Owners v xs w hv
theorem specOwnersOk_is {S : Nat → Prop} (v : Value) (xs : List Owner) (w : World) (hv : rd S w [v] xs) {b : Bool} (h : ownersB xs = b) :
    Calls Tryd.prog 16 #[v] w fun e w' => e = .returned (.bool b) ∧ Below w.heap.size w w' := by rw [← h]; exact specOwnersOk v xs w hv

set_option maxHeartbeats 4000000 in
set_option maxRecDepth 100000 in
theorem l17Who_is {S : Nat → Prop} (v : Value) (xs : List Owner) (path : ByteArray) (w : World) (hv : rd S w [v] xs) (hzp : path.size ≤ maxLen) {r : ByteArray} (hr : bestG path ⟨#[]⟩ 0 xs = r) :
    Calls Tryd.prog 59 #[v, .string path] w fun e w' => e = .returned (.string r) ∧ w = w' := by
  obtain ⟨a, cap, rfl, hs⟩ := rd_slice_elim (Rep.lt hv)
  have hle := hs.le
  have H0 : Hid (r = bestG path ⟨#[]⟩ 0 (xs.drop 0)) := hr.symm
  clear hr
  go_enter Tryd.func59, Tryd.ntmps59
  go_wp2
  go_loopw [5, 6, 7] (fun u l i wr => (∃ (k n : Nat) (who : ByteArray), k ≤ xs.length ∧ i = .int .i64 k ∧ l = .int .i64 n ∧ n ≤ 9223372036854775807 ∧ u = .string who ∧ Hid (r = bestG path who n (xs.drop k))) ∧ w = wr) (fun _ _ i _ => xs.length - (intOf i).toNat)
  case atStart => exact ⟨⟨0, 0, _, by omega, rfl, rfl, by omega, rfl, H0.out⟩, rfl⟩
  case round =>
    obtain ⟨⟨k, n, who, hk, rfl, rfl, hn, rfl, HA⟩, rfl⟩ := hrel
    by_cases hlt : k < xs.length
    · obtain ⟨g, off, rfl, hc1, hc2, hz1, hz2⟩ := hs.owner hlt
      have HM := fun h1 h2 => best_more HA.out hlt h1 h2
      have HN := fun h1 => best_not HA.out hlt h1
      have HL := fun h2 => best_less HA.out hlt h2
      obtain ⟨o, ho⟩ : ∃ o, o = xs[k] := ⟨_, rfl⟩
      rw [← ho] at hc1 hc2 hz1 hz2 HM HN HL
      have HM := Lib.hid HM
      have HN := Lib.hid HN
      have HL := Lib.hid HL
      have hzm : o.path.size ≤ 9223372036854775807 := by unfold maxLen at hz1; omega
      clear ho HA
      by_cases he : o.path = path
      · have hd : decide (o.path = path) = true := decide_eq_true he
        have HO : ownsB path o = true := by unfold ownsB; rw [hd]; rfl
        clear he
        by_cases hgt : n < o.path.size
        · have HN2 := Lib.hid (HM.out HO hgt)
          have hg2 : decide (n < o.path.size) = true := decide_eq_true hgt
          clear HO
          go_wp2
          go_roundw
          case rel => exact ⟨⟨k + 1, o.path.size, o.who, by omega, by go_num, rfl, hzm, rfl, HN2.out⟩, trivial⟩
          case measure => simp [intOf] <;> omega
        · have HN2 := Lib.hid (HL.out hgt)
          have hg2 : decide (n < o.path.size) = false := decide_eq_false hgt
          clear HO
          go_wp2
          go_roundw
          case rel => exact ⟨⟨k + 1, n, who, by omega, by go_num, rfl, hn, rfl, HN2.out⟩, trivial⟩
          case measure => simp [intOf] <;> omega
      · have hd : decide (o.path = path) = false := decide_eq_false he
        have HO : ownsB path o = inB o.path path := by unfold ownsB; rw [hd]; rfl
        clear he
        cases hin : inB o.path path with
        | false =>
          have HN2 := Lib.hid (HN.out (HO.trans hin))
          clear HO
          go_wp2_with fail
          refine (l4In_is _ _ _ hz1 hzp hin).mono ?_
          rintro e w3 ⟨rfl, rfl⟩
          go_wp2
          go_roundw
          case rel => exact ⟨⟨k + 1, n, who, by omega, by go_num, rfl, hn, rfl, HN2.out⟩, trivial⟩
          case measure => simp [intOf] <;> omega
        | true =>
          by_cases hgt : n < o.path.size
          · have HN2 := Lib.hid (HM.out (HO.trans hin) hgt)
            have hg2 : decide (n < o.path.size) = true := decide_eq_true hgt
            clear HO
            go_wp2_with fail
            refine (l4In_is _ _ _ hz1 hzp hin).mono ?_
            rintro e w3 ⟨rfl, rfl⟩
            go_wp2
            go_roundw
            case rel => exact ⟨⟨k + 1, o.path.size, o.who, by omega, by go_num, rfl, hzm, rfl, HN2.out⟩, trivial⟩
            case measure => simp [intOf] <;> omega
          · have HN2 := Lib.hid (HL.out hgt)
            have hg2 : decide (n < o.path.size) = false := decide_eq_false hgt
            clear HO
            go_wp2_with fail
            refine (l4In_is _ _ _ hz1 hzp hin).mono ?_
            rintro e w3 ⟨rfl, rfl⟩
            go_wp2
            go_roundw
            case rel => exact ⟨⟨k + 1, n, who, by omega, by go_num, rfl, hn, rfl, HN2.out⟩, trivial⟩
            case measure => simp [intOf] <;> omega
    · have HN := Lib.hid (best_end HA.out hlt)
      go_wp2
      go_ret
      exact ⟨by rw [HN.out]; rfl, rfl⟩

set_option maxHeartbeats 1000000 in
theorem specOwnerOf {S : Nat → Prop} (v : Value) (xs : List Owner) (path : ByteArray) (w : World) (hv : rd S w [v] xs) (hzp : path.size ≤ maxLen) {r : ByteArray} (hr : ownerOf xs path = r) :
    Calls Tryd.prog 14 #[v, .string path] w fun e w' => e = .returned (.string r) ∧ Below w.heap.size w w' := by
  have hv := Rep.lt hv
  cases hb : ownersB xs with
  | false =>
    rw [owner_no1 hb] at hr
    subst hr
    go_enter Tryd.func14, Tryd.ntmps14
    go_wp2_with fail
    refine (l17Owners_is _ xs _ hv hb).mono ?_
    rintro e w1 ⟨rfl, hb1⟩
    go_wp2
    go_ret
    exact ⟨rfl, hb1⟩
  | true =>
    cases hp : pathB path with
    | false =>
      rw [owner_no2 hp] at hr
      subst hr
      go_enter Tryd.func14, Tryd.ntmps14
      go_wp2_with fail
      refine (l17Owners_is _ xs _ hv hb).mono ?_
      rintro e w1 ⟨rfl, hb1⟩
      go_wp2_with fail
      refine (l4Path_is path _ hzp hp).mono ?_
      rintro e w2 ⟨rfl, hb2⟩
      go_wp2
      go_ret
      exact ⟨rfl, hb1.trans (hb2.mono hb1.size)⟩
    | true =>
      rw [owner_yes hb hp] at hr
      have HR := Lib.hid hr
      clear hr
      go_enter Tryd.func14, Tryd.ntmps14
      go_wp2_with fail
      refine (l17Owners_is _ xs _ hv hb).mono ?_
      rintro e w1 ⟨rfl, hb1⟩
      go_wp2_with fail
      refine (l4Path_is path _ hzp hp).mono ?_
      rintro e w2 ⟨rfl, hb2⟩
      have HB := hb1.trans (hb2.mono hb1.size)
      go_wp2_with fail
      refine (l17Who_is _ xs path _ (Rep.keep hv HB) hzp HR.out).mono ?_
      rintro e w3 ⟨rfl, rfl⟩
      go_wp2
      go_ret
      exact ⟨rfl, HB⟩
end Go.Proofs.YtfpneepnnoldeaaDoor
