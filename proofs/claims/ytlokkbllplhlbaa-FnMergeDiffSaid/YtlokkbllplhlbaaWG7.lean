/-
  Walks: what comes of a merge, as the reference has it.
-/
import Derived.Test.YtlokkbllplhlbaaWG5
set_option linter.unusedVariables false
namespace Go.Proofs.Ytlokkbllplhlbaa
open Go.RowKit Go.Vc
open Go.Vc.Rep (rd)
open Go.Vc.Own (own)

set_option maxHeartbeats 4000000 in
set_option maxRecDepth 100000 in
theorem l3Text_any {S : Nat → Prop} (v : Value) (P : List Part) (w : World) (hv : rd S w [v] P) (hsm : SmallP P 121) :
    Calls Try.prog 71 #[v] w fun e w' => ∃ v', e = .returned (.tuple #[v', .bool (pFin (textF P [])).2]) ∧ Fresh w.heap.size w'.heap.size w' [v'] (pFin (textF P [])).1 ∧ Below w.heap.size w w' := by
  obtain ⟨a, cap, rfl, hs⟩ := rd_slice_elim (Rep.lt hv)
  have hpl := hsm.1
  go_enter Try.func71, Try.ntmps71
  go_wp2
  go_loopw [4, 5] (fun out i wr => (∃ (k : Nat) (ol : List ByteArray), k ≤ P.length ∧ i = .int .i64 k ∧ Fresh w.heap.size wr.heap.size wr [out] ol ∧ ol.length ≤ 121 * k ∧ Hid (textF P [] = textF (P.drop k) ol)) ∧ Below w.heap.size w wr) (fun _ i _ => P.length - (intOf i).toNat)
  case atStart => exact ⟨⟨0, [], by omega, rfl, (Fresh.empty (by decide) _ _ (Nat.le_refl _)).now, by simp, rfl⟩, (Below.refl _ _).alloc (Nat.le_refl _) _⟩
  case round =>
    obtain ⟨⟨k, ol, hk, rfl, hF, hol, HA⟩, hb⟩ := hrel
    obtain ⟨a2, c2, rfl, _⟩ := hF.shape
    have hsz := hb.size
    by_cases hlt : k < P.length
    · obtain ⟨g, off, a1, c1, b2, d2, b3, d3, b4, d4, rfl, x0, x1, x2, x3, x4, y1, y2, y3, y4⟩ := (hs.keep hb).part hlt
      have hsp := hsm.at hlt
      have HC := Lib.hid (textF_clash (R := textF P []) HA.out hlt)
      have HN := Lib.hid (textF_next (R := textF P []) HA.out hlt)
      obtain ⟨pp, hpp⟩ : ∃ pp, pp = P[k] := ⟨_, rfl⟩
      rw [← hpp] at x0 x1 x2 x3 x4 y1 y2 y3 y4 hsp HN HC
      clear hpp
      cases hcl : pp.clash with
      | false =>
        have HN2 := Lib.hid (HN.out hcl)
        rw [hcl] at x0
        clear hcl
        go_wp2_with (at_builtin; go_must (refine wpList_app_leaf slz_string.slt rfl (.tmp 18) (.tmp 23) rfl rfl hF hsz rfl rfl y1 (by omega) (by unfold maxLen; omega) ?_); intro a5 c5 w5 hG5)
        have hG := hG5.fresh
        go_roundw
        case rel => exact ⟨⟨k + 1, ol ++ pp.lines, by omega, by go_num, hG, by simp; omega, HN2.out⟩, hb.trans hG5.below⟩
        case measure => simp [intOf]; omega
      | true =>
        have HZ := Lib.hid (show pFin (textF P []) = ([], false) by rw [HC.out hcl]; rfl)
        rw [hcl] at x0
        clear hcl
        go_wp2
        go_ret2
        exact ⟨.slice none 0 0, by rw [HZ.out]; rfl, by rw [HZ.out]; exact Fresh.nil _ _ _ (by decide), hb⟩
    · have HE := Lib.hid (textF_end (R := textF P []) HA.out hlt)
      cases htx : textB ol with
      | false =>
        have HZ := Lib.hid (show pFin (textF P []) = ([], false) by rw [HE.out, pFin, if_neg (by rw [htx]; simp)])
        go_wp2_with fail
        refine (l1Ok_is _ _ _ hF.rd htx).mono ?_
        rintro e w' ⟨rfl, rfl⟩
        clear htx
        go_wp2
        go_ret2
        exact ⟨.slice none 0 0, by rw [HZ.out]; rfl, by rw [HZ.out]; exact Fresh.nil _ _ _ (by decide), hb⟩
      | true =>
        have HZ := Lib.hid (show pFin (textF P []) = (ol, true) by rw [HE.out, pFin, if_pos htx])
        go_wp2_with fail
        refine (l1Ok_is _ _ _ hF.rd htx).mono ?_
        rintro e w' ⟨rfl, rfl⟩
        clear htx
        go_wp2
        go_ret2
        exact ⟨_, by rw [HZ.out]; rfl, by rw [HZ.out]; exact hF, hb⟩

set_option maxHeartbeats 4000000 in
set_option maxRecDepth 100000 in
theorem l3Side_any {S : Nat → Prop} (v : Value) (P : List Part) (s : Int) (hs2 : 0 ≤ s ∧ s ≤ 2) (w : World) (hv : rd S w [v] P) (hsm : SmallP P 121) :
    Calls Try.prog 51 #[v, .int .i64 s] w fun e w' => ∃ v', e = .returned v' ∧ Fresh w.heap.size w'.heap.size w' [v'] (sideF s P) ∧ Below w.heap.size w w' := by
  obtain ⟨a, cap, rfl, hs⟩ := rd_slice_elim (Rep.lt hv)
  have hpl := hsm.1
  go_enter Try.func51, Try.ntmps51
  go_wp2
  go_loopw [5, 6] (fun out i wr => (∃ (k : Nat) (ol : List ByteArray), k ≤ P.length ∧ i = .int .i64 k ∧ Fresh w.heap.size wr.heap.size wr [out] ol ∧ ol.length ≤ 121 * k ∧ Hid (sideF s P = ol ++ sideF s (P.drop k))) ∧ Below w.heap.size w wr) (fun _ i _ => P.length - (intOf i).toNat)
  case atStart => exact ⟨⟨0, [], by omega, rfl, (Fresh.empty (by decide) _ _ (Nat.le_refl _)).now, by simp, by show _ = _; simp⟩, (Below.refl _ _).alloc (Nat.le_refl _) _⟩
  case round =>
    obtain ⟨⟨k, ol, hk, rfl, hF, hol, HA⟩, hb⟩ := hrel
    obtain ⟨a2, c2, rfl, _⟩ := hF.shape
    have hsz := hb.size
    by_cases hlt : k < P.length
    · obtain ⟨g, off, a1, c1, b2, d2, b3, d3, b4, d4, rfl, x0, x1, x2, x3, x4, y1, y2, y3, y4⟩ := (hs.keep hb).part hlt
      have hsp := hsm.at hlt
      have HN := Lib.hid (sideF_next HA.out hlt)
      obtain ⟨pp, hpp⟩ : ∃ pp, pp = P[k] := ⟨_, rfl⟩
      rw [← hpp] at x0 x1 x2 x3 x4 y1 y2 y3 y4 hsp HN
      clear hpp
      cases hcl : pp.clash with
      | false =>
        have HSO := Lib.hid (show sideOf s pp = pp.lines by rw [sideOf, if_neg (by rw [hcl]; simp)])
        rw [hcl] at x0
        rw [HSO.out] at HN
        clear hcl
        go_wp2_with (at_builtin; go_must (refine wpList_app_leaf slz_string.slt rfl (.tmp 28) (.tmp 33) rfl rfl hF hsz rfl rfl y1 (by omega) (by unfold maxLen; omega) ?_); intro a5 c5 w5 hG5)
        have hG := hG5.fresh
        go_roundw
        case rel => exact ⟨⟨k + 1, ol ++ pp.lines, by omega, by go_num, hG, by simp; omega, HN.out⟩, hb.trans hG5.below⟩
        case measure => simp [intOf]; omega
      | true =>
        have HSO := Lib.hid (show sideOf s pp = if s = 0 then pp.old else if s = 1 then pp.one else pp.two by rw [sideOf, if_pos hcl])
        rw [hcl] at x0
        rw [HSO.out] at HN
        clear hcl HSO
        obtain rfl | rfl | rfl : s = 0 ∨ s = 1 ∨ s = 2 := by omega
        · go_wp2_with (at_builtin; go_must (refine wpList_app_leaf slz_string.slt rfl (.tmp 38) (.tmp 43) rfl rfl hF hsz rfl rfl y2 (by omega) (by unfold maxLen; omega) ?_); intro a5 c5 w5 hG5)
          have hG := hG5.fresh
          go_roundw
          case rel => exact ⟨⟨k + 1, _, by omega, by go_num, hG, by simp; omega, by show _ = _; have := HN.out; simpa using this⟩, hb.trans hG5.below⟩
          case measure => simp [intOf]; omega
        · go_wp2_with (at_builtin; go_must (refine wpList_app_leaf slz_string.slt rfl (.tmp 48) (.tmp 53) rfl rfl hF hsz rfl rfl y3 (by omega) (by unfold maxLen; omega) ?_); intro a5 c5 w5 hG5)
          have hG := hG5.fresh
          go_roundw
          case rel => exact ⟨⟨k + 1, _, by omega, by go_num, hG, by simp; omega, by show _ = _; have := HN.out; simpa using this⟩, hb.trans hG5.below⟩
          case measure => simp [intOf]; omega
        · go_wp2_with (at_builtin; go_must (refine wpList_app_leaf slz_string.slt rfl (.tmp 14) (.tmp 19) rfl rfl hF hsz rfl rfl y4 (by omega) (by unfold maxLen; omega) ?_); intro a5 c5 w5 hG5)
          have hG := hG5.fresh
          go_roundw
          case rel => exact ⟨⟨k + 1, _, by omega, by go_num, hG, by simp; omega, by show _ = _; have := HN.out; simpa using this⟩, hb.trans hG5.below⟩
          case measure => simp [intOf]; omega
    · have HE := Lib.hid (sideF_end HA.out hlt)
      go_wp2
      go_ret
      exact ⟨_, rfl, by rw [HE.out]; exact hF, hb⟩

set_option maxHeartbeats 1000000 in
theorem specMergeText {S T U : Nat → Prop} (v u x : Value) (o a b : List ByteArray) (w : World) (hv : rd S w [v] o) (hu : rd T w [u] a) (hx : rd U w [x] b) :
    Calls Try.prog 36 #[v, u, x] w fun e w' => ∃ v', e = .returned (.tuple #[v', .bool (mText o a b).2]) ∧ Fresh w.heap.size w'.heap.size w' [v'] (mText o a b).1 ∧ Below w.heap.size w w' := by
  have hv := Rep.lt hv
  have hu := Rep.lt hu
  have hx := Rep.lt hx
  cases h1 : textB o with
  | false =>
    have HD := Lib.hid (show mText o a b = ([], false) by rw [mText, if_neg (by rw [three_bad1 h1]; simp)])
    go_enter Try.func36, Try.ntmps36
    go_wp2_with fail
    refine (l1Ok_is _ _ _ hv h1).mono ?_
    rintro e w' ⟨rfl, rfl⟩
    go_wp2
    go_ret2
    exact ⟨.slice none 0 0, by rw [HD.out]; rfl, by rw [HD.out]; exact Fresh.nil _ _ _ (by decide), Below.refl _ _⟩
  | true =>
    cases h2 : textB a with
    | false =>
      have HD := Lib.hid (show mText o a b = ([], false) by rw [mText, if_neg (by rw [three_bad2 h2]; simp)])
      go_enter Try.func36, Try.ntmps36
      go_wp2_with fail
      refine (l1Ok_is _ _ _ hv h1).mono ?_
      rintro e w' ⟨rfl, rfl⟩
      go_wp2_with fail
      refine (l1Ok_is _ _ _ hu h2).mono ?_
      rintro e w' ⟨rfl, rfl⟩
      go_wp2
      go_ret2
      exact ⟨.slice none 0 0, by rw [HD.out]; rfl, by rw [HD.out]; exact Fresh.nil _ _ _ (by decide), Below.refl _ _⟩
    | true =>
      cases h3 : textB b with
      | false =>
        have HD := Lib.hid (show mText o a b = ([], false) by rw [mText, if_neg (by rw [three_bad3 h3]; simp)])
        go_enter Try.func36, Try.ntmps36
        go_wp2_with fail
        refine (l1Ok_is _ _ _ hv h1).mono ?_
        rintro e w' ⟨rfl, rfl⟩
        go_wp2_with fail
        refine (l1Ok_is _ _ _ hu h2).mono ?_
        rintro e w' ⟨rfl, rfl⟩
        go_wp2_with fail
        refine (l1Ok_is _ _ _ hx h3).mono ?_
        rintro e w' ⟨rfl, rfl⟩
        go_wp2
        go_ret2
        exact ⟨.slice none 0 0, by rw [HD.out]; rfl, by rw [HD.out]; exact Fresh.nil _ _ _ (by decide), Below.refl _ _⟩
      | true =>
        have h123 := three_iff.2 ⟨h1, h2, h3⟩
        have l1 := text_len10 h1
        have l2 := text_len10 h2
        have l3 := text_len10 h3
        have hsm := mergeT_small l1 l2 l3
        have HD := Lib.hid (show mText o a b = pFin (textF (mergeT o a b) []) by rw [mText, if_pos h123])
        go_enter Try.func36, Try.ntmps36
        go_wp2_with fail
        refine (l1Ok_is _ _ _ hv h1).mono ?_
        rintro e w' ⟨rfl, rfl⟩
        go_wp2_with fail
        refine (l1Ok_is _ _ _ hu h2).mono ?_
        rintro e w' ⟨rfl, rfl⟩
        go_wp2_with fail
        refine (l1Ok_is _ _ _ hx h3).mono ?_
        rintro e w' ⟨rfl, rfl⟩
        go_wp2_with fail
        refine (l3Of_any _ _ _ o a b _ hv hu hx l1 l2 l3).mono ?_
        rintro e wm ⟨vm, rfl, hM, hbm⟩
        have hszm := hbm.size
        go_wp2_with fail
        refine (l3Text_any _ _ _ hM.rd hsm).mono ?_
        rintro e w2 ⟨v', rfl, hF, hb⟩
        go_wp2
        go_ret2
        exact ⟨v', by rw [HD.out]; rfl, by rw [HD.out]; exact hF.mono hszm (Nat.le_refl _), hbm.trans (hb.mono hszm)⟩

set_option maxHeartbeats 1000000 in
theorem specMergeOf {S T U : Nat → Prop} (v u x : Value) (o a b : List ByteArray) (w : World) (hv : rd S w [v] o) (hu : rd T w [u] a) (hx : rd U w [x] b) :
    Calls Try.prog 65 #[v, u, x] w fun e w' => ∃ v', e = .returned v' ∧ Fresh w.heap.size w'.heap.size w' [v'] (mOf o a b) ∧ Below w.heap.size w w' := by
  have hv := Rep.lt hv
  have hu := Rep.lt hu
  have hx := Rep.lt hx
  cases h1 : textB o with
  | false =>
    have HD := Lib.hid (show mOf o a b = [] by rw [mOf, if_neg (by rw [three_bad1 h1]; simp)])
    go_enter Try.func65, Try.ntmps65
    go_wp2_with fail
    refine (l1Ok_is _ _ _ hv h1).mono ?_
    rintro e w' ⟨rfl, rfl⟩
    go_wp2
    go_ret
    exact ⟨.slice none 0 0, rfl, by rw [HD.out]; exact Fresh.nil _ _ _ (by decide), Below.refl _ _⟩
  | true =>
    cases h2 : textB a with
    | false =>
      have HD := Lib.hid (show mOf o a b = [] by rw [mOf, if_neg (by rw [three_bad2 h2]; simp)])
      go_enter Try.func65, Try.ntmps65
      go_wp2_with fail
      refine (l1Ok_is _ _ _ hv h1).mono ?_
      rintro e w' ⟨rfl, rfl⟩
      go_wp2_with fail
      refine (l1Ok_is _ _ _ hu h2).mono ?_
      rintro e w' ⟨rfl, rfl⟩
      go_wp2
      go_ret
      exact ⟨.slice none 0 0, rfl, by rw [HD.out]; exact Fresh.nil _ _ _ (by decide), Below.refl _ _⟩
    | true =>
      cases h3 : textB b with
      | false =>
        have HD := Lib.hid (show mOf o a b = [] by rw [mOf, if_neg (by rw [three_bad3 h3]; simp)])
        go_enter Try.func65, Try.ntmps65
        go_wp2_with fail
        refine (l1Ok_is _ _ _ hv h1).mono ?_
        rintro e w' ⟨rfl, rfl⟩
        go_wp2_with fail
        refine (l1Ok_is _ _ _ hu h2).mono ?_
        rintro e w' ⟨rfl, rfl⟩
        go_wp2_with fail
        refine (l1Ok_is _ _ _ hx h3).mono ?_
        rintro e w' ⟨rfl, rfl⟩
        go_wp2
        go_ret
        exact ⟨.slice none 0 0, rfl, by rw [HD.out]; exact Fresh.nil _ _ _ (by decide), Below.refl _ _⟩
      | true =>
        have h123 := three_iff.2 ⟨h1, h2, h3⟩
        have l1 := text_len10 h1
        have l2 := text_len10 h2
        have l3 := text_len10 h3
        have hsm := mergeT_small l1 l2 l3
        have HD := Lib.hid (show mOf o a b = mergeT o a b by rw [mOf, if_pos h123])
        go_enter Try.func65, Try.ntmps65
        go_wp2_with fail
        refine (l1Ok_is _ _ _ hv h1).mono ?_
        rintro e w' ⟨rfl, rfl⟩
        go_wp2_with fail
        refine (l1Ok_is _ _ _ hu h2).mono ?_
        rintro e w' ⟨rfl, rfl⟩
        go_wp2_with fail
        refine (l1Ok_is _ _ _ hx h3).mono ?_
        rintro e w' ⟨rfl, rfl⟩
        go_wp2_with fail
        refine (l3Of_any _ _ _ o a b _ hv hu hx l1 l2 l3).mono ?_
        rintro e wm ⟨vm, rfl, hM, hbm⟩
        have hszm := hbm.size
        go_wp2
        go_ret
        exact ⟨vm, rfl, by rw [HD.out]; exact hM, hbm⟩

set_option maxHeartbeats 1000000 in
theorem specMergeSide {S T U : Nat → Prop} (v u x : Value) (o a b : List ByteArray) (s : Int) (w : World) (hv : rd S w [v] o) (hu : rd T w [u] a) (hx : rd U w [x] b) :
    Calls Try.prog 16 #[v, u, x, .int .i64 s] w fun e w' => ∃ v', e = .returned (.tuple #[v', .bool (mSide o a b s).2]) ∧ Fresh w.heap.size w'.heap.size w' [v'] (mSide o a b s).1 ∧ Below w.heap.size w w' := by
  have hv := Rep.lt hv
  have hu := Rep.lt hu
  have hx := Rep.lt hx
  cases h1 : textB o with
  | false =>
    have HD := Lib.hid (show mSide o a b s = ([], false) by rw [mSide, if_neg (by rw [three_bad1 h1]; simp)])
    go_enter Try.func16, Try.ntmps16
    go_wp2_with fail
    refine (l1Ok_is _ _ _ hv h1).mono ?_
    rintro e w' ⟨rfl, rfl⟩
    go_wp2
    go_ret2
    exact ⟨.slice none 0 0, by rw [HD.out]; rfl, by rw [HD.out]; exact Fresh.nil _ _ _ (by decide), Below.refl _ _⟩
  | true =>
    cases h2 : textB a with
    | false =>
      have HD := Lib.hid (show mSide o a b s = ([], false) by rw [mSide, if_neg (by rw [three_bad2 h2]; simp)])
      go_enter Try.func16, Try.ntmps16
      go_wp2_with fail
      refine (l1Ok_is _ _ _ hv h1).mono ?_
      rintro e w' ⟨rfl, rfl⟩
      go_wp2_with fail
      refine (l1Ok_is _ _ _ hu h2).mono ?_
      rintro e w' ⟨rfl, rfl⟩
      go_wp2
      go_ret2
      exact ⟨.slice none 0 0, by rw [HD.out]; rfl, by rw [HD.out]; exact Fresh.nil _ _ _ (by decide), Below.refl _ _⟩
    | true =>
      cases h3 : textB b with
      | false =>
        have HD := Lib.hid (show mSide o a b s = ([], false) by rw [mSide, if_neg (by rw [three_bad3 h3]; simp)])
        go_enter Try.func16, Try.ntmps16
        go_wp2_with fail
        refine (l1Ok_is _ _ _ hv h1).mono ?_
        rintro e w' ⟨rfl, rfl⟩
        go_wp2_with fail
        refine (l1Ok_is _ _ _ hu h2).mono ?_
        rintro e w' ⟨rfl, rfl⟩
        go_wp2_with fail
        refine (l1Ok_is _ _ _ hx h3).mono ?_
        rintro e w' ⟨rfl, rfl⟩
        go_wp2
        go_ret2
        exact ⟨.slice none 0 0, by rw [HD.out]; rfl, by rw [HD.out]; exact Fresh.nil _ _ _ (by decide), Below.refl _ _⟩
      | true =>
        have h123 := three_iff.2 ⟨h1, h2, h3⟩
        have l1 := text_len10 h1
        have l2 := text_len10 h2
        have l3 := text_len10 h3
        have hsm := mergeT_small l1 l2 l3
        cases h4 : withinB s 0 2 with
        | false =>
          have HD := Lib.hid (show mSide o a b s = ([], false) by rw [mSide, if_neg (by rw [h4]; simp)])
          go_enter Try.func16, Try.ntmps16
          go_wp2_with fail
          refine (l1Ok_is _ _ _ hv h1).mono ?_
          rintro e w' ⟨rfl, rfl⟩
          go_wp2_with fail
          refine (l1Ok_is _ _ _ hu h2).mono ?_
          rintro e w' ⟨rfl, rfl⟩
          go_wp2_with fail
          refine (l1Ok_is _ _ _ hx h3).mono ?_
          rintro e w' ⟨rfl, rfl⟩
          go_wp2_with fail
          refine (l1In_is _ _ _ _ h4).mono ?_
          rintro e w' ⟨rfl, rfl⟩
          go_wp2
          go_ret2
          exact ⟨.slice none 0 0, by rw [HD.out]; rfl, by rw [HD.out]; exact Fresh.nil _ _ _ (by decide), Below.refl _ _⟩
        | true =>
          have HD := Lib.hid (show mSide o a b s = pFin (some (sideF s (mergeT o a b))) by rw [mSide, if_pos ⟨h123, h4⟩])
          have hs2 : 0 ≤ s ∧ s ≤ 2 := by simpa [withinB] using h4
          go_enter Try.func16, Try.ntmps16
          go_wp2_with fail
          refine (l1Ok_is _ _ _ hv h1).mono ?_
          rintro e w' ⟨rfl, rfl⟩
          go_wp2_with fail
          refine (l1Ok_is _ _ _ hu h2).mono ?_
          rintro e w' ⟨rfl, rfl⟩
          go_wp2_with fail
          refine (l1Ok_is _ _ _ hx h3).mono ?_
          rintro e w' ⟨rfl, rfl⟩
          go_wp2_with fail
          refine (l1In_is _ _ _ _ h4).mono ?_
          rintro e w' ⟨rfl, rfl⟩
          go_wp2_with fail
          refine (l3Of_any _ _ _ o a b _ hv hu hx l1 l2 l3).mono ?_
          rintro e wm ⟨vm, rfl, hM, hbm⟩
          have hszm := hbm.size
          go_wp2_with fail
          refine (l3Side_any _ _ s hs2 _ hM.rd hsm).mono ?_
          rintro e w2 ⟨v', rfl, hF, hb⟩
          cases htx : textB (sideF s (mergeT o a b)) with
          | false =>
            have HZ := Lib.hid (show pFin (some (sideF s (mergeT o a b))) = ([], false) by rw [pFin, if_neg (by rw [htx]; simp)])
            go_wp2_with fail
            refine (l1Ok_is _ _ _ hF.rd htx).mono ?_
            rintro e w' ⟨rfl, rfl⟩
            clear htx
            go_wp2
            go_ret2
            exact ⟨.slice none 0 0, by rw [HD.out, HZ.out]; rfl, by rw [HD.out, HZ.out]; exact Fresh.nil _ _ _ (by decide), hbm.trans (hb.mono hszm)⟩
          | true =>
            have HZ := Lib.hid (show pFin (some (sideF s (mergeT o a b))) = (sideF s (mergeT o a b), true) by rw [pFin, if_pos htx])
            go_wp2_with fail
            refine (l1Ok_is _ _ _ hF.rd htx).mono ?_
            rintro e w' ⟨rfl, rfl⟩
            clear htx
            go_wp2
            go_ret2
            exact ⟨v', by rw [HD.out, HZ.out]; rfl, by rw [HD.out, HZ.out]; exact hF.mono hszm (Nat.le_refl _), hbm.trans (hb.mono hszm)⟩
end Go.Proofs.Ytlokkbllplhlbaa
