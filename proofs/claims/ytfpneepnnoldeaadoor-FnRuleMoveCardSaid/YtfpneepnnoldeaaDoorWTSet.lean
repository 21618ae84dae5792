/-
  Walks: a file set in a tree, as the program does it.
-/
import Derived.Test.YtfpneepnnoldeaaDoorVIN
import Derived.Test.YtfpneepnnoldeaaDoorVTR
import Derived.Test.YtfpneepnnoldeaaDoorVPB
set_option linter.unusedVariables false
namespace Go.Proofs.YtfpneepnnoldeaaDoor
open Go.RowKit Go.Vc
open Go.Vc.Rep (rd)
open Go.Vc.Own (own)
set_option maxHeartbeats 4000000 in
set_option maxRecDepth 100000 in
/-- a new tree if it is ok, else the old one -/
theorem implChanged {S : Nat → Prop} {B : Nat} (v vo : Value) (t out : List File) (w : World) (hv : rd S w [v] t) (ho : Fresh B w.heap.size w [vo] out) (hl : t.length ≤ 900) (hx : ∀ f, f ∈ t → f.text.length ≤ 10) (hS : ∀ f, f ∈ out → ShortS f.path) (hM : ML w) (hB : B ≤ w.heap.size) {b : Bool} (hb : treeB out = b) {x : List File} (hxx : (if b = true then out else t) = x) :
    Calls Tryd.prog 77 #[v, vo] w fun e w' => ∃ v', e = .returned (.tuple #[v', .bool b]) ∧ Fresh B w'.heap.size w' [v'] x ∧ Below w.heap.size w w' := by
  subst hxx
  obtain ⟨a, cap, rfl, hs⟩ := rd_slice_elim (Rep.lt hv)
  obtain ⟨ao, co, rfl, _⟩ := ho.shape
  cases b with
  | false =>
    go_enter Tryd.func77, Tryd.ntmps77
    go_wp2_with fail
    refine (treeOk_is _ out _ (Rep.lt ho.rd) hS hM hb).mono ?_
    rintro e w1 ⟨rfl, hb1⟩
    have hs1 := hb1.size
    go_wp2_with fail
    refine (copyTree_any _ t _ (hs.keep hb1).rd (by omega) hx).mono ?_
    rintro e w2 ⟨vc, rfl, hC, hb2⟩
    go_wp2
    go_ret2
    exact ⟨_, rfl, hC.mono (by omega) (Nat.le_refl _), hb1.trans (hb2.mono hs1)⟩
  | true =>
    go_enter Tryd.func77, Tryd.ntmps77
    go_wp2_with fail
    refine (treeOk_is _ out _ (Rep.lt ho.rd) hS hM hb).mono ?_
    rintro e w1 ⟨rfl, hb1⟩
    have ho := (ho.below (Nat.le_refl _) hb1).now
    go_wp2
    go_ret2
    exact ⟨_, rfl, ho, hb1⟩
set_option maxHeartbeats 4000000 in
set_option maxRecDepth 100000 in
theorem implTreeSet {S T : Nat → Prop} (v : Value) (t : List File) (p : ByteArray) (tv : Value) (tx : List ByteArray) (w : World) (hv : rd S w [v] t) (hS : ∀ f, f ∈ t → ShortS f.path) (hM : ML w) (hz : p.size ≤ maxLen) (hp : ShortS p) (ht : rd T w [tv] tx) (htx : tx.length ≤ 1000) :
    Calls Tryd.prog 31 #[v, .agg #[.string p, tv]] w fun e w' => ∃ v', e = .returned (.tuple #[v', .bool (setB t ⟨p, tx⟩)]) ∧ Fresh w.heap.size w'.heap.size w' [v'] (treeSet t ⟨p, tx⟩) ∧ Below w.heap.size w w' := by
  obtain ⟨a, cap, rfl, hs⟩ := rd_slice_elim (Rep.lt hv)
  obtain ⟨at_, ct, rfl, hts⟩ := rd_slice_elim (Rep.lt ht)
  obtain ⟨wb, hwb⟩ : ∃ wb, wb = w.alloc (.cells #[.string p, .slice at_ tx.length ct] 45) := ⟨_, rfl⟩
  obtain ⟨hB0, hsb, hq⟩ := boxed (vs := [.string p, .slice at_ tx.length ct]) hwb
  have q0 := hq 0 _ rfl
  have q1 := hq 1 _ rfl
  have hsz0 : w.heap.size < wb.heap.size := by omega
  have hMb := hM.keep hB0
  have HW := Lib.hid hwb
  clear hq hwb hsb hv ht
  cases hb : treeB t with
  | false =>
    have e1 : treeSet t ⟨p, tx⟩ = [] := by unfold treeSet; rw [if_neg (by rw [hb]; simp)]
    have e2 : setB t ⟨p, tx⟩ = false := by unfold setB; rw [hb]; rfl
    have E1 := Lib.hid e1
    have E2 := Lib.hid e2
    clear e1 e2
    go_enter Tryd.func31, Tryd.ntmps31
    go_wp2_with fail
    rw [← HW.out]
    refine (treeOk_is _ t _ (hs.keep hB0).rd hS hMb hb).mono ?_
    rintro e w1 ⟨rfl, hb1⟩
    go_wp2
    go_ret2
    exact ⟨.slice none 0 0, by rw [E2.out]; rfl, by rw [E1.out]; exact Fresh.nil _ _ _ (by decide), hB0.trans (hb1.mono hB0.size)⟩
  | true =>
    have e1 : treeSet t ⟨p, tx⟩ = if treeB (setT t ⟨p, tx⟩) = true then setT t ⟨p, tx⟩ else t := by unfold treeSet; rw [if_pos hb]
    have e2 : setB t ⟨p, tx⟩ = treeB (setT t ⟨p, tx⟩) := by unfold setB; rw [hb]; rfl
    have E1 := Lib.hid e1
    have E2 := Lib.hid e2
    obtain ⟨h8, h10⟩ := tree_files hb
    have hAs := asc_tree hb
    have hSS : ∀ f, f ∈ setT t ⟨p, tx⟩ → ShortS f.path := fun f hf => by
      rcases setG_mem hf with rfl | hf
      · exact hp
      · exact hS f hf
    clear e1 e2
    go_enter Tryd.func31, Tryd.ntmps31
    go_wp2_with fail
    rw [← HW.out]
    refine (treeOk_is _ t _ (hs.keep hB0).rd hS hMb hb).mono ?_
    rintro e w1 ⟨rfl, hb1⟩
    have hs1 := hb1.size
    have q0 := keepc q0 hb1
    have q1 := keepc q1 hb1
    have hB1 := hB0.trans (hb1.mono hB0.size)
    go_wp2_with fail
    refine (implPut _ t p _ tx _ (hs.keep hB1).rd hAs (by omega) h10 hz (hts.keep hB1).rd htx).mono ?_
    rintro e w2 ⟨vo, rfl, hO, hb2⟩
    have hs2 := hb2.size
    obtain ⟨ao, co, rfl, _⟩ := hO.shape
    have hB2 := hB1.trans (hb2.mono hB1.size)
    go_wp2_with fail
    refine (implChanged _ _ t _ _ (hs.keep hB2).rd hO (by omega) h10 hSS (hM.keep hB2) (by omega) E2.out.symm (x := treeSet t ⟨p, tx⟩) (by rw [E2.out]; exact E1.out.symm)).mono ?_
    rintro e w3 ⟨v3, rfl, hR, hb3⟩
    obtain ⟨a3, c3, rfl, _⟩ := hR.shape
    go_wp2
    go_ret2
    exact ⟨_, rfl, hR.mono (by omega) (Nat.le_refl _), hB2.trans (hb3.mono hB2.size)⟩
end Go.Proofs.YtfpneepnnoldeaaDoor
