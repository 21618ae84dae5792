/-
  Walks: a text of a pack.
-/
import Derived.Test.YtjfhbepnomnalaaPk5
set_option linter.unusedVariables false
namespace Go.Vc
theorem pget_bad {xs : List Packed} {k : Int} (h : packB xs = false) : pget xs k = ([], false) := by rw [pget, if_neg (by rw [h]; simp)]
theorem pget_out {xs : List Packed} {k : Int} (h : packB xs = true) (h1 : withinB k 0 ((xs.length : Int) - 1) = false) : pget xs k = ([], false) := by rw [pget, if_pos h, if_neg (by rw [h1]; simp)]
theorem pget_in {xs : List Packed} {k : Nat} (h : packB xs = true) (h1 : k < xs.length) : pget xs k = ((getAt xs k).1, true) := by
  have hw : withinB k 0 ((xs.length : Int) - 1) = true := (withinB_iff _ _ _).2 ⟨by omega, by omega⟩
  rw [pget, if_pos h, if_pos hw]
  show getAt xs k = _
  have := ((packB_of h).1 k h1).2.1
  rw [← this]
end Go.Vc
namespace Go.Proofs.Ytjfhbepnomnalaa
open Go.RowKit Go.Vc
open Go.Vc.Rep (rd)
open Go.Vc.Own (own)

set_option maxHeartbeats 1000000 in
theorem implPackGet {S : Nat → Prop} (v : Value) (xs : List Packed) (k : Int) (w : World) (hv : rd S w [v] xs) (hk : I64 k) :
    Calls Try.prog 42 #[v, .int .i64 k] w fun e w' => ∃ v', e = .returned (.tuple #[v', .bool (pget xs k).2]) ∧ Fresh w.heap.size w'.heap.size w' [v'] (pget xs k).1 ∧ Below w.heap.size w w' := by
  obtain ⟨a, cap, rfl, hs⟩ := rd_slice_elim (Rep.lt hv)
  have hle := hs.le
  cases hp : packB xs with
  | false =>
    have HN := Lib.hid (pget_bad (k := k) hp)
    go_enter Try.func42, Try.ntmps42
    go_wp2_with fail
    refine (unpack_is _ xs _ hs.rd hp rfl).mono ?_
    rintro e w1 ⟨v', rfl, _, hb⟩
    clear hp
    go_wp2
    go_ret2
    exact ⟨.slice none 0 0, by rw [HN.out]; rfl, by rw [HN.out]; exact Fresh.nil _ _ _ (by decide), hb⟩
  | true =>
    rcases unp_is xs with ⟨_, ts, hts, hl, hg⟩ | ⟨h, _⟩
    · have HG := Lib.hid hg
      clear hg
      cases hw : withinB k 0 ((xs.length : Int) - 1) with
      | false =>
        have HN := Lib.hid (pget_out hp hw)
        go_enter Try.func42, Try.ntmps42
        go_wp2_with fail
        refine (unpack_is _ xs _ hs.rd hp (ts := ts) (by rw [hts]; rfl)).mono ?_
        rintro e w1 ⟨v', rfl, _, hb⟩
        clear hp hts
        go_wp2_with fail
        refine (within_is _ _ _ _ hw).mono ?_
        rintro e w2 ⟨rfl, rfl⟩
        go_wp2
        go_ret2
        exact ⟨.slice none 0 0, by rw [HN.out]; rfl, by rw [HN.out]; exact Fresh.nil _ _ _ (by decide), hb⟩
      | true =>
        have hr := (withinB_iff _ _ _).1 hw
        obtain ⟨q, rfl⟩ : ∃ q : Nat, k = (q : Int) := ⟨k.toNat, by omega⟩
        have hq : q < xs.length := by omega
        have HN := Lib.hid (pget_in hp hq)
        go_enter Try.func42, Try.ntmps42
        go_wp2_with fail
        refine (unpack_is _ xs _ hs.rd hp (ts := ts) (by rw [hts]; rfl)).mono ?_
        rintro e w1 ⟨v', rfl, hF, hb⟩
        clear hp hts
        go_wp2_with fail
        refine (within_is _ _ _ _ hw).mono ?_
        rintro e w2 ⟨rfl, rfl⟩
        obtain ⟨g, c, u, rfl, hu, hF2⟩ := hF.elem1 rfl (i := q) (by omega)
        have hlt : q < ts.length := by omega
        have HE := Lib.hid (show ts[q] = (getAt xs q).1 by
          have := HG.out q hq
          rw [List.getD_eq_getElem?_getD, List.getElem?_eq_getElem hlt] at this
          exact this)
        go_wp2
        go_ret2
        exact ⟨u, by rw [HN.out]; rfl, by rw [HN.out, ← HE.out]; exact hF2, hb⟩
    · rw [h] at hp; cases hp

set_option maxHeartbeats 1000000 in
theorem specPackGet {S : Nat → Prop} (v : Value) (xs : List Packed) (k : Int) (w : World) (hv : rd S w [v] xs) (hk : I64 k) (hlen : xs.length ≤ 1048576) :
    Calls Try.prog 43 #[v, .int .i64 k] w fun e w' => ∃ v', e = .returned (.tuple #[v', .bool (pget xs k).2]) ∧ Fresh w.heap.size w'.heap.size w' [v'] (pget xs k).1 ∧ Below w.heap.size w w' := by
  obtain ⟨a, cap, rfl, hs⟩ := rd_slice_elim (Rep.lt hv)
  have hle := hs.le
  cases hp : packB xs with
  | false =>
    have HN := Lib.hid (pget_bad (k := k) hp)
    go_enter Try.func43, Try.ntmps43
    go_wp2_with fail
    refine (l13PackOk_is _ xs _ hs.rd hlen hp).mono ?_
    rintro e w1 ⟨rfl, hb⟩
    clear hp
    go_wp2
    go_ret2
    exact ⟨.slice none 0 0, by rw [HN.out]; rfl, by rw [HN.out]; exact Fresh.nil _ _ _ (by decide), hb⟩
  | true =>
    cases hw : withinB k 0 ((xs.length : Int) - 1) with
    | false =>
      have HN := Lib.hid (pget_out hp hw)
      go_enter Try.func43, Try.ntmps43
      go_wp2_with fail
      refine (l13PackOk_is _ xs _ hs.rd hlen hp).mono ?_
      rintro e w1 ⟨rfl, hb⟩
      clear hp
      go_wp2_with fail
      refine (l1In_is _ _ _ _ hw).mono ?_
      rintro e w2 ⟨rfl, rfl⟩
      go_wp2
      go_ret2
      exact ⟨.slice none 0 0, by rw [HN.out]; rfl, by rw [HN.out]; exact Fresh.nil _ _ _ (by decide), hb⟩
    | true =>
      have hr := (withinB_iff _ _ _).1 hw
      obtain ⟨q, rfl⟩ : ∃ q : Nat, k = (q : Int) := ⟨k.toNat, by omega⟩
      have hq : q < xs.length := by omega
      have HN := Lib.hid (pget_in hp hq)
      have hgd := packB_of hp
      have hfm : Hid (∀ j, PForm xs j) := by
        show ∀ _, _
        exact fun j hj => (hgd.1 j hj).1 hj
      have HR := Lib.hid (show getAt xs q = ((getAt xs q).1, true) by have := (hgd.1 q hq).2.1; rw [← this])
      clear hgd
      go_enter Try.func43, Try.ntmps43
      go_wp2_with fail
      refine (l13PackOk_is _ xs _ hs.rd hlen hp).mono ?_
      rintro e w1 ⟨rfl, hb⟩
      clear hp
      go_wp2_with fail
      refine (l1In_is _ _ _ _ hw).mono ?_
      rintro e w2 ⟨rfl, rfl⟩
      go_wp2_with fail
      refine (l13Get_any xs hfm (q + 1) q _ _ (hs.keep hb).rd (by omega) hq _ _ HR.out).mono ?_
      rintro e w2 ⟨v2, rfl, hF2, hb2⟩
      go_wp2
      go_ret2
      exact ⟨v2, by rw [HN.out]; rfl, by rw [HN.out]; exact hF2.mono hb.size (Nat.le_refl _), hb.trans (hb2.mono hb.size)⟩
end Go.Proofs.Ytjfhbepnomnalaa
