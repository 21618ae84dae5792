/-
  Walks: paths.
-/
import Derived.Test.YtlokkbllplhlbaaDoorSplit
import Derived.Test.YtlokkbllplhlbaaDoorWR0
import Derived.Test.YtlokkbllplhlbaaDoorKeep
set_option linter.unusedVariables false
namespace Go.Proofs.YtlokkbllplhlbaaDoor
open Go.RowKit Go.Vc
open Go.Vc.Rep (rd)
open Go.Vc.Own (own)

set_option maxHeartbeats 1000000 in
theorem pathOk_is (s : ByteArray) (w : World) (hs : ShortS s) (hm : ML w) {b : Bool} (hb : pathB s = b) :
    Calls Tryd.prog 15 #[.string s] w fun e w' => e = .returned (.bool b) ∧ Below w.heap.size w w' := by
  subst hb
  go_enter Tryd.func15, Tryd.ntmps15
  go_wp2_with fail
  refine (split_any s w hs hm).mono ?_
  rintro e w1 ⟨v, rfl, hv, hb1⟩
  obtain ⟨a, cap, rfl, hs1⟩ := rd_slice_elim hv
  have hle := hs1.le
  by_cases h3 : (pieces 47 s).length ≤ 3
  · have d3 : decide ((3 : Int) < (pieces 47 s).length) = false := decide_eq_false (by omega)
    have HP := Lib.hid (path_short h3)
    clear h3
    obtain ⟨P, hP⟩ : ∃ P, P = pieces 47 s := ⟨_, rfl⟩
    rw [← hP] at hs1 hle d3 HP hv ⊢
    clear hP
    go_wp2
    go_loop [13] (fun i => ∃ k : Nat, k ≤ P.length ∧ i = .int .i64 k ∧ Hid (P.all nameB = (P.drop k).all nameB)) (fun i => P.length - (intOf i).toNat)
    case atStart => exact ⟨0, by omega, rfl, rfl⟩
    case round =>
      obtain ⟨k, hk, rfl, HA⟩ := hrel
      by_cases hlt : k < P.length
      · obtain ⟨g, off, rfl, hc, hsz⟩ := hs1.str hlt
        cases hn : nameB P[k] with
        | false =>
          have HN := Lib.hid (all_bad HA.out hlt hn)
          go_wp2_with fail
          refine (nameOk_is _ _ hsz hn).mono ?_
          rintro e w2 ⟨rfl, rfl⟩
          go_wp2
          go_ret
          exact ⟨ret_bool (by rw [HP.out, HN.out]), hb1⟩
        | true =>
          have HN := Lib.hid (all_next HA.out hlt hn)
          go_wp2_with fail
          refine (nameOk_is _ _ hsz hn).mono ?_
          rintro e w2 ⟨rfl, rfl⟩
          go_wp2
          go_round
          case rel => exact ⟨k + 1, by omega, by go_num, HN.out⟩
          case measure => simp [intOf]; omega
      · have HN := Lib.hid (all_end HA.out hlt)
        go_wp2
        go_ret
        exact ⟨ret_bool (by rw [HP.out, HN.out]), hb1⟩
  · have d3 : decide ((3 : Int) < (pieces 47 s).length) = true := decide_eq_true (by omega)
    have HP := Lib.hid (path_long h3)
    clear h3
    go_wp2
    go_ret
    exact ⟨ret_bool HP.out.symm, hb1⟩

set_option maxHeartbeats 2000000 in
set_option maxRecDepth 100000 in
theorem l1Cut_any (s : ByteArray) (c : UInt8) (m : Nat) (w : World) (hs : s.size ≤ maxLen) (hm : m ≤ 1000) :
    Calls Tryd.prog 52 #[.string s, .int .u8 c.toNat, .int .i64 m] w fun e w' => ∃ v, e = .returned v ∧ Fresh w.heap.size w'.heap.size w' [v] (piecesM c m s) ∧ Below w.heap.size w w' := by
  unfold maxLen at hs
  go_enter Tryd.func52, Tryd.ntmps52
  go_wp2
  go_loopw [7, 8, 9] (fun out f i wr => (∃ (ol : List ByteArray) (f' k : Nat), f = .int .i64 f' ∧ i = .int .i64 k ∧ f' ≤ k ∧ k ≤ s.size ∧ ol.length ≤ m ∧ Fresh w.heap.size wr.heap.size wr [out] ol ∧ Hid (CutS c m s ol f' k)) ∧ Below w.heap.size w wr) (fun _ _ i _ => s.size - (intOf i).toNat)
  case atStart => exact ⟨⟨[], 0, 0, rfl, rfl, Nat.le_refl _, Nat.zero_le _, Nat.zero_le _, (Fresh.empty (β := ByteArray) (by decide) w.heap.size w (Nat.le_refl _)).now, CutS.start c m s⟩, ((Below.refl _ _).alloc (by simp <;> omega) _)⟩
  case round =>
    obtain ⟨⟨ol, f, k, rfl, rfl, hfk, hk, hol, hF, HC⟩, hb⟩ := hrel
    obtain ⟨a2, c2, rfl, _⟩ := hF.shape
    have hsz := hb.size
    by_cases hlt : k < s.size
    · by_cases hlm : ol.length < m
      · by_cases he : s[k].toNat = c.toNat
        · have HN := Lib.hid (HC.out.cut hlt he hlm)
          have he' : decide (s[k].toNat = c.toNat) = true := decide_eq_true he
          have hxs : (s.extract f k).size ≤ maxLen := by rw [ByteArray.size_extract]; unfold maxLen; omega
          go_wp2_with (at_builtin; go_must (refine wpList_app_leaf slz_string.slt rfl (.tmp 28) (.tmp 33) rfl rfl (hF.alloc _) (by simp; omega) rfl rfl (lit_strs [s.extract f k] (heap_alloc_new _ _) (by simpa using hxs) (by unfold maxLen; simp)) (by simp; omega) (by unfold maxLen; simp; omega) ?_); intro a5 c5 w5 hG5)
          go_roundw
          case rel => exact ⟨⟨ol ++ [s.extract f k], k + 1, k + 1, by go_num, by go_num, by omega, by omega, by simp; omega, by have := hG5.fresh; simpa using this, HN.out⟩, (hb.alloc hsz _).trans hG5.below⟩
          case measure => simp [intOf]; omega
        · have HN := Lib.hid (HC.out.skip hlt he)
          have he' : decide (s[k].toNat = c.toNat) = false := decide_eq_false he
          go_wp2
          go_roundw
          case rel => exact ⟨⟨ol, f, k + 1, rfl, by go_num, by omega, by omega, hol, hF, HN.out⟩, hb⟩
          case measure => simp [intOf]; omega
      · have HN := Lib.hid (HC.out.fin (.inr hlm))
        have hxs : (s.extract f s.size).size ≤ maxLen := by rw [ByteArray.size_extract]; unfold maxLen; omega
        go_wp2_with (at_builtin; go_must (refine wpList_app_leaf slz_string.slt rfl (.tmp 37) (.tmp 41) rfl rfl (hF.alloc _) (by simp; omega) rfl rfl (lit_strs [s.extract f s.size] (heap_alloc_new _ _) (by simpa using hxs) (by unfold maxLen; simp)) (by simp; omega) (by unfold maxLen; simp; omega) ?_); intro a5 c5 w5 hG5)
        go_ret
        exact ⟨_, rfl, by rw [HN.out]; have := hG5.fresh; simpa using this, (hb.alloc hsz _).trans hG5.below⟩
    · have HN := Lib.hid (HC.out.fin (.inl hlt))
      have hxs : (s.extract f s.size).size ≤ maxLen := by rw [ByteArray.size_extract]; unfold maxLen; omega
      go_wp2_with (at_builtin; go_must (refine wpList_app_leaf slz_string.slt rfl (.tmp 37) (.tmp 41) rfl rfl (hF.alloc _) (by simp; omega) rfl rfl (lit_strs [s.extract f s.size] (heap_alloc_new _ _) (by simpa using hxs) (by unfold maxLen; simp)) (by simp; omega) (by unfold maxLen; simp; omega) ?_); intro a5 c5 w5 hG5)
      go_ret
      exact ⟨_, rfl, by rw [HN.out]; have := hG5.fresh; simpa using this, (hb.alloc hsz _).trans hG5.below⟩

set_option maxHeartbeats 1000000 in
theorem l4Path_is (s : ByteArray) (w : World) (hs : s.size ≤ maxLen) {b : Bool} (hb : pathB s = b) :
    Calls Tryd.prog 34 #[.string s] w fun e w' => e = .returned (.bool b) ∧ Below w.heap.size w w' := by
  subst hb
  have HP := Lib.hid (pathB_piecesM s)
  have hpl := piecesM_len 47 3 s
  go_enter Tryd.func34, Tryd.ntmps34
  go_wp2_with fail
  refine (l1Cut_any s 47 3 w hs (by decide)).mono ?_
  rintro e w1 ⟨v, rfl, hv, hb1⟩
  obtain ⟨a, cap, rfl, hs1⟩ := rd_slice_elim hv.rd
  have hle := hs1.le
  obtain ⟨P, hP⟩ : ∃ P, P = piecesM 47 3 s := ⟨_, rfl⟩
  rw [← hP] at hs1 hle HP hpl hv ⊢
  clear hP
  go_wp2
  go_loop [4] (fun i => ∃ k : Nat, k ≤ P.length ∧ i = .int .i64 k ∧ Hid (P.all nameB = (P.drop k).all nameB)) (fun i => P.length - (intOf i).toNat)
  case atStart => exact ⟨0, by omega, rfl, rfl⟩
  case round =>
    obtain ⟨k, hk, rfl, HA⟩ := hrel
    by_cases hlt : k < P.length
    · obtain ⟨g, off, rfl, hc, hsz⟩ := hs1.str hlt
      cases hn : nameB P[k] with
      | false =>
        have HN := Lib.hid (all_bad HA.out hlt hn)
        go_wp2_with fail
        refine (l4Name_is _ _ hsz hn).mono ?_
        rintro e w2 ⟨rfl, rfl⟩
        go_wp2
        go_ret
        exact ⟨ret_bool (by rw [HP.out, HN.out, Bool.and_false]), hb1⟩
      | true =>
        have HN := Lib.hid (all_next HA.out hlt hn)
        go_wp2_with fail
        refine (l4Name_is _ _ hsz hn).mono ?_
        rintro e w2 ⟨rfl, rfl⟩
        go_wp2
        go_round
        case rel => exact ⟨k + 1, by omega, by go_num, HN.out⟩
        case measure => simp [intOf]; omega
    · have HN := Lib.hid (all_end HA.out hlt)
      go_wp2
      go_ret
      exact ⟨ret_bool (by rw [HP.out, HN.out, Bool.and_true]; rw [decide_eq_decide]; omega), hb1⟩
end Go.Proofs.YtlokkbllplhlbaaDoor
