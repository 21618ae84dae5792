/-
  Walks: the text at a path. / Walks: what a line refers to.
-/
import Derived.Test.YtegknjcifmenpaaDoorWCopy
import Derived.Test.YtegknjcifmenpaaDoorVPB
import Derived.Test.YtegknjcifmenpaaDoorVTR
import Derived.Test.YtegknjcifmenpaaDoorVL
set_option linter.unusedVariables false
namespace Go.Proofs.YtegknjcifmenpaaDoor
open Go.RowKit Go.Vc
open Go.Vc.Rep (rd)
open Go.Vc.Own (own)

set_option maxHeartbeats 4000000 in
set_option maxRecDepth 100000 in
theorem get_any {S : Nat → Prop} (v : Value) (t : List File) (path : ByteArray) (w : World) (hv : rd S w [v] t) (hx : ∀ f, f ∈ t → f.text.length ≤ 10) {M : Option (List ByteArray)} (hM : getT t path = M) :
    Calls Tryd.prog 33 #[v, .string path] w fun e w' => ∃ v', e = .returned (.tuple #[v', .bool M.isSome]) ∧ Fresh w.heap.size w'.heap.size w' [v'] (M.getD []) ∧ Below w.heap.size w w' := by
  obtain ⟨a, cap, rfl, hs⟩ := rd_slice_elim (Rep.lt hv)
  have hle := hs.le
  have HM := Lib.hid hM
  clear hM
  go_enter Tryd.func33, Tryd.ntmps33
  go_wp2
  go_loopw [10] (fun i wr => (∃ k : Nat, k ≤ t.length ∧ i = .int .i64 k ∧ Hid (getT t path = getT (t.drop k) path)) ∧ Below w.heap.size w wr) (fun i _ => t.length - (intOf i).toNat)
  case atStart => exact ⟨⟨0, by omega, rfl, rfl⟩, Below.refl _ _⟩
  case round =>
    obtain ⟨⟨k, hk, rfl, HA⟩, hb⟩ := hrel
    have hsz := hb.size
    by_cases hlt : k < t.length
    · obtain ⟨g, off, a1, c1, rfl, hc1, hc2, hz1, hft⟩ := (hs.keep hb).file hlt
      have hx10 := hx t[k] (List.getElem_mem hlt)
      obtain ⟨f, hf⟩ : ∃ f, f = t[k] := ⟨_, rfl⟩
      rw [← hf] at hc1 hc2 hz1 hft hx10
      have HF := Lib.hid hf
      have hB1 : Below wr.heap.size wr (wr.alloc (.cells #[.string f.path, .slice a1 f.text.length c1] 51)) := (Below.refl _ _).alloc (Nat.le_refl _) _
      have q0 : (wr.alloc (.cells #[.string f.path, .slice a1 f.text.length c1] 51)).cell? ⟨wr.heap.size, 0, none⟩ = some (.string f.path) := by rw [cell_of_row _ _ 0 _ _ (0, 0) (heap_alloc_new _ _)]; rfl
      have q1 : (wr.alloc (.cells #[.string f.path, .slice a1 f.text.length c1] 51)).cell? ⟨wr.heap.size, 1, none⟩ = some (.slice a1 f.text.length c1) := by rw [cell_of_row _ _ 1 _ _ (0, 0) (heap_alloc_new _ _)]; rfl
      have hb2 := hb.trans (hB1.mono hsz)
      have hft := hft.keep (hB1.mono hsz)
      clear hf
      by_cases he : f.path = path
      · have hd : decide (f.path = path) = true := decide_eq_true he
        have HN := Lib.hid (HM.out.symm.trans (getT_hit HA.out hlt (by rw [← HF.out]; exact he)))
        clear he
        go_wp2_with fail
        refine (copyText_any _ f.text _ hft.rd (by omega)).mono ?_
        rintro e w5 ⟨a5, c5, rfl, hC, hb5⟩
        go_wp2
        go_ret2
        exact ⟨_, by rw [HN.out]; rfl, by rw [HN.out, ← HF.out]; exact hC.mono hb2.size (Nat.le_refl _), hb2.trans (hb5.mono hb2.size)⟩
      · have hd : decide (f.path = path) = false := decide_eq_false he
        have HN := Lib.hid (getT_next HA.out hlt (by rw [← HF.out]; exact he))
        clear he
        go_wp2
        go_roundw
        case rel => exact ⟨⟨k + 1, by omega, by go_num, HN.out⟩, hb2⟩
        case measure => simp [intOf] <;> omega
    · have HN := Lib.hid (HM.out.symm.trans (getT_end HA.out hlt))
      go_wp2
      go_ret2
      exact ⟨.slice none 0 0, by rw [HN.out]; rfl, by rw [HN.out]; exact Fresh.nil _ _ _ (by decide), hb⟩

set_option maxHeartbeats 4000000 in
set_option maxRecDepth 100000 in
theorem l4Get_any {S : Nat → Prop} (v : Value) (t : List File) (path : ByteArray) (w : World) (hv : rd S w [v] t) {M : Option (List ByteArray)} (hM : getT t path = M) :
    Calls Tryd.prog 40 #[v, .string path] w fun e w' => ∃ v', e = .returned (.tuple #[v', .bool M.isSome]) ∧ rd (fun b => b < w.heap.size) w [v'] (M.getD []) ∧ w' = w := by
  obtain ⟨a, cap, rfl, hs⟩ := rd_slice_elim (Rep.lt hv)
  have hle := hs.le
  have HM := Lib.hid hM
  clear hM
  go_enter Tryd.func40, Tryd.ntmps40
  go_wp2
  go_loopw [6] (fun i wr => (∃ k : Nat, k ≤ t.length ∧ i = .int .i64 k ∧ Hid (getT t path = getT (t.drop k) path)) ∧ wr = w) (fun i _ => t.length - (intOf i).toNat)
  case atStart => exact ⟨⟨0, by omega, rfl, rfl⟩, rfl⟩
  case round =>
    obtain ⟨⟨k, hk, rfl, HA⟩, rfl⟩ := hrel
    by_cases hlt : k < t.length
    · obtain ⟨g, off, a1, c1, rfl, hc1, hc2, hz1, hft⟩ := hs.file hlt
      obtain ⟨f, hf⟩ : ∃ f, f = t[k] := ⟨_, rfl⟩
      rw [← hf] at hc1 hc2 hz1 hft
      have HF := Lib.hid hf
      clear hf
      by_cases he : f.path = path
      · have hd : decide (f.path = path) = true := decide_eq_true he
        have HN := Lib.hid (HM.out.symm.trans (getT_hit HA.out hlt (by rw [← HF.out]; exact he)))
        clear he
        go_wp2
        go_ret2
        exact ⟨_, by rw [HN.out]; rfl, by rw [HN.out, ← HF.out]; exact hft.rd, rfl⟩
      · have hd : decide (f.path = path) = false := decide_eq_false he
        have HN := Lib.hid (getT_next HA.out hlt (by rw [← HF.out]; exact he))
        clear he
        go_wp2
        go_roundw
        case rel => exact ⟨⟨k + 1, by omega, by go_num, HN.out⟩, trivial⟩
        case measure => simp [intOf] <;> omega
    · have HN := Lib.hid (HM.out.symm.trans (getT_end HA.out hlt))
      go_wp2
      go_ret2
      exact ⟨.slice none 0 0, by rw [HN.out]; rfl, by rw [HN.out]; exact rd_slice_nil _ _, rfl⟩

end Go.Proofs.YtegknjcifmenpaaDoor
namespace Go.Proofs.YtegknjcifmenpaaDoor
open Go.RowKit Go.Vc
open Go.Vc.Rep (rd)
open Go.Vc.Own (own)

set_option maxHeartbeats 1000000 in
theorem slHasPrefix_is (s p : ByteArray) (w : World) (hs : s.size ≤ maxLen) (hp : p.size ≤ maxLen) {b : Bool} (hb : pfxB p s = b) :
    Calls Tryd.prog 65 #[.string s, .string p] w fun e w' => e = .returned (.bool b) ∧ w = w' := by
  subst hb
  unfold maxLen at hs hp
  by_cases hl : p.size ≤ s.size
  · have H := Lib.hid (pfxB_of hl)
    cases he : decide (s.extract 0 p.size = p) with
    | true =>
      rw [he] at H
      go_enter Tryd.func65, Tryd.ntmps65
      go_wp2
      go_ret
      exact ⟨ret_bool H.out.symm, rfl⟩
    | false =>
      rw [he] at H
      go_enter Tryd.func65, Tryd.ntmps65
      go_wp2
      go_ret
      exact ⟨ret_bool H.out.symm, rfl⟩
  · have H := Lib.hid (pfxB_long hl)
    go_enter Tryd.func65, Tryd.ntmps65
    go_wp2
    go_ret
    exact ⟨ret_bool H.out.symm, rfl⟩

set_option maxHeartbeats 1000000 in
theorem cutPrefix_f (s p : ByteArray) (w : World) (hs : s.size ≤ maxLen) (hp : p.size ≤ maxLen) (hb : pfxB p s = false) :
    Calls Tryd.prog 59 #[.string s, .string p] w fun e w' => e = .returned (.tuple #[.string s, .bool false]) ∧ w = w' := by
  have H : Calls Tryd.prog 74 #[.string s, .string p] w fun e w' => e = .returned (.tuple #[.string s, .bool false]) ∧ w = w' := by
    go_enter Tryd.func74, Tryd.ntmps74
    go_wp2_with fail
    refine (slHasPrefix_is _ _ _ hs hp hb).mono ?_
    rintro e w1 ⟨rfl, rfl⟩
    go_wp2
    go_ret2
    exact ⟨rfl, rfl⟩
  go_enter Tryd.func59, Tryd.ntmps59
  go_wp2_with fail
  refine H.mono ?_
  rintro e w1 ⟨rfl, rfl⟩
  go_wp2
  go_ret2
  exact ⟨rfl, rfl⟩
set_option maxHeartbeats 1000000 in
theorem cutPrefix_t (s p : ByteArray) (w : World) (hs : s.size ≤ maxLen) (hp : p.size ≤ maxLen) (hl : p.size ≤ s.size) (hb : pfxB p s = true) :
    Calls Tryd.prog 59 #[.string s, .string p] w fun e w' => e = .returned (.tuple #[.string (s.extract p.size s.size), .bool true]) ∧ w = w' := by
  have hs' := hs
  have hp' := hp
  unfold maxLen at hs hp
  have H : Calls Tryd.prog 74 #[.string s, .string p] w fun e w' => e = .returned (.tuple #[.string (s.extract p.size s.size), .bool true]) ∧ w = w' := by
    go_enter Tryd.func74, Tryd.ntmps74
    go_wp2_with fail
    refine (slHasPrefix_is _ _ _ hs' hp' hb).mono ?_
    rintro e w1 ⟨rfl, rfl⟩
    go_wp2
    go_ret2
    exact ⟨rfl, rfl⟩
  go_enter Tryd.func59, Tryd.ntmps59
  go_wp2_with fail
  refine H.mono ?_
  rintro e w1 ⟨rfl, rfl⟩
  go_wp2
  go_ret2
  exact ⟨rfl, rfl⟩
set_option maxHeartbeats 1000000 in
theorem refers_none (s : ByteArray) (w : World) (hs : s.size ≤ maxLen) (h : refT s = ⟨#[]⟩) :
    Calls Tryd.prog 39 #[.string s] w fun e w' => ∃ u, e = .returned (.tuple #[.string u, .bool false]) ∧ w = w' := by
  cases hp : pfxB seeT s with
  | false =>
    go_enter Tryd.func39, Tryd.ntmps39
    go_wp2_with fail
    refine (cutPrefix_f _ seeT _ hs (by decide) hp).mono ?_
    rintro e w1 ⟨rfl, rfl⟩
    go_wp2
    go_ret2
    exact ⟨_, rfl, rfl⟩
  | true =>
    obtain ⟨h1, h2⟩ := ref_pfx hp
    have h3 : ¬ 4 < s.size := fun h4 => refT_ne h4 (by rw [← refT_yes h4 h2]; exact h)
    have h5 : (s.extract 4 s.size).toList.isEmpty = true := by
      refine empty_t (ba_ext ?_)
      have : (s.extract 4 s.size).data.toList.length = 0 := by simp; omega
      rw [List.eq_nil_of_length_eq_zero this]
    have h6 : seeT.size = 4 := rfl
    go_enter Tryd.func39, Tryd.ntmps39
    go_wp2_with fail
    refine (cutPrefix_t _ seeT _ hs (by decide) h1 hp).mono ?_
    rintro e w1 ⟨rfl, rfl⟩
    rw [h6]
    clear h6 h2 hp h
    go_wp2
    go_ret2
    exact ⟨_, rfl, rfl⟩
set_option maxHeartbeats 1000000 in
theorem refers_some (s : ByteArray) (w : World) (hs : s.size ≤ maxLen) (h : ¬ refT s = ⟨#[]⟩) :
    Calls Tryd.prog 39 #[.string s] w fun e w' => e = .returned (.tuple #[.string (refT s), .bool true]) ∧ w = w' := by
  cases hp : pfxB seeT s with
  | false => exact absurd (ref_nopfx hp) h
  | true =>
    obtain ⟨h1, h2⟩ := ref_pfx hp
    have h3 : 4 < s.size := by
      by_cases h4 : 4 < s.size
      · exact h4
      · exact absurd (refT_short h4) h
    have h5 : (s.extract 4 s.size).toList.isEmpty = false := empty_f (refT_ne h3)
    have h6 : seeT.size = 4 := rfl
    have H := Lib.hid (refT_yes h3 h2)
    go_enter Tryd.func39, Tryd.ntmps39
    go_wp2_with fail
    refine (cutPrefix_t _ seeT _ hs (by decide) h1 hp).mono ?_
    rintro e w1 ⟨rfl, rfl⟩
    rw [h6]
    clear h6 h2 hp h
    go_wp2
    go_ret2
    exact ⟨by rw [H.out]; rfl, rfl⟩
set_option maxHeartbeats 1000000 in
theorem l16Ref_is (s : ByteArray) (w : World) (hs : s.size ≤ maxLen) {r : ByteArray} (hr : refT s = r) :
    Calls Tryd.prog 60 #[.string s] w fun e w' => e = .returned (.string r) ∧ w = w' := by
  subst hr
  unfold maxLen at hs
  by_cases h1 : 4 < s.size
  · by_cases h2 : s.extract 0 4 = seeT
    · have H := Lib.hid (refT_yes h1 h2)
      have h3 : ((s.extract 0 4).toList == [115, 101, 101, 32]) = true := by rw [see_beq]; exact decide_eq_true h2
      clear h2
      go_enter Tryd.func60, Tryd.ntmps60
      go_wp2
      go_ret
      exact ⟨by rw [H.out]; rfl, rfl⟩
    · have H := Lib.hid (refT_other h2)
      have h3 : ((s.extract 0 4).toList == [115, 101, 101, 32]) = false := by rw [see_beq]; exact decide_eq_false h2
      clear h2
      go_enter Tryd.func60, Tryd.ntmps60
      go_wp2
      go_ret
      exact ⟨by rw [H.out]; rfl, rfl⟩
  · have H := Lib.hid (refT_short h1)
    go_enter Tryd.func60, Tryd.ntmps60
    go_wp2
    go_ret
    exact ⟨by rw [H.out]; rfl, rfl⟩
theorem get_some {S : Nat → Prop} (v : Value) (t : List File) (path : ByteArray) (w : World) (hv : rd S w [v] t) (hx : ∀ f, f ∈ t → f.text.length ≤ 10) {x : List ByteArray} (hM : getT t path = some x) :
    Calls Tryd.prog 33 #[v, .string path] w fun e w' => ∃ v', e = .returned (.tuple #[v', .bool true]) ∧ Fresh w.heap.size w'.heap.size w' [v'] x ∧ Below w.heap.size w w' := get_any v t path w hv hx hM
theorem get_none {S : Nat → Prop} (v : Value) (t : List File) (path : ByteArray) (w : World) (hv : rd S w [v] t) (hx : ∀ f, f ∈ t → f.text.length ≤ 10) (hM : getT t path = none) :
    Calls Tryd.prog 33 #[v, .string path] w fun e w' => ∃ v', e = .returned (.tuple #[v', .bool false]) ∧ Below w.heap.size w w' :=
  (get_any v t path w hv hx hM).mono fun e w' ⟨v', h, _, hb⟩ => ⟨v', h, hb⟩
theorem l4Get_some {S : Nat → Prop} (v : Value) (t : List File) (path : ByteArray) (w : World) (hv : rd S w [v] t) {x : List ByteArray} (hM : getT t path = some x) :
    Calls Tryd.prog 40 #[v, .string path] w fun e w' => ∃ v', e = .returned (.tuple #[v', .bool true]) ∧ rd (fun b => b < w.heap.size) w [v'] x ∧ w = w' :=
  (l4Get_any v t path w hv hM).mono fun e w' ⟨v', h, hr, hw⟩ => ⟨v', h, hr, hw.symm⟩
theorem l4Get_none {S : Nat → Prop} (v : Value) (t : List File) (path : ByteArray) (w : World) (hv : rd S w [v] t) (hM : getT t path = none) :
    Calls Tryd.prog 40 #[v, .string path] w fun e w' => ∃ v', e = .returned (.tuple #[v', .bool false]) ∧ rd (fun b => b < w.heap.size) w [v'] ([] : List ByteArray) ∧ w = w' :=
  (l4Get_any v t path w hv hM).mono fun e w' ⟨v', h, hr, hw⟩ => ⟨v', h, hr, hw.symm⟩
end Go.Proofs.YtegknjcifmenpaaDoor
