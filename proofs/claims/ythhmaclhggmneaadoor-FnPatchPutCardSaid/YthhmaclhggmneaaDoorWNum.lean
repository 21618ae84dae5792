/-
  Walks: a number read, and a text's lines.
-/
import Derived.Test.YthhmaclhggmneaaDoorVPG
import Derived.Test.YthhmaclhggmneaaDoorRows
import Derived.Test.YthhmaclhggmneaaDoorBld
import Derived.Test.YthhmaclhggmneaaDoorVL
import Derived.Lib.AtoiAllCases
import Derived.Lib.AtoiErrMem
set_option linter.unusedVariables false
namespace Go.Vc
open Go.RowKit
theorem empty_dec (s : ByteArray) : s.toList.isEmpty = decide (s = ⟨#[]⟩) := by
  by_cases h : s = ⟨#[]⟩
  · rw [decide_eq_true h, h, ByteArray.toList_eq]; rfl
  · rw [decide_eq_false h]
    cases he : s.toList.isEmpty with
    | false => rfl
    | true =>
      exfalso
      rw [List.isEmpty_iff, ByteArray.toList_eq] at he
      refine h ?_
      rw [← bytesB_data s, he]; rfl
theorem var_keep {P : Program} {w w' : World} {n : String} {cs : Array Value} (h : w.var? P n = some cs) (hb : Below w.heap.size w w') : w'.var? P n = some cs := by
  unfold World.var? at h ⊢
  cases hg : P.globalNamed n with
  | none => rw [hg] at h; cases h
  | some g =>
    rw [hg] at h
    have h2 : (match w.heap[g]? with | some (.cells cs _ _) => some cs | _ => none) = some cs := h
    have hl : g < w.heap.size := by
      rcases Nat.lt_or_ge g w.heap.size with h1 | h1
      · exact h1
      · rw [Array.getElem?_eq_none h1] at h2; cases h2
    show (match w'.heap[g]? with | some (.cells cs _ _) => some cs | _ => none) = some cs
    rw [hb.block g hl]
    exact h2
theorem grow_below (w : World) (k : Nat) (os : Array Obj) : Below w.heap.size w (Sort.grow (w.drewN k) os) := by
  refine ⟨rfl, rfl, rfl, by simp [Sort.grow, World.drewN], fun i hi => ?_⟩
  show (w.heap ++ os)[i]? = w.heap[i]?
  rw [Array.getElem?_append_left hi]
end Go.Vc
namespace Go.Proofs.YthhmaclhggmneaaDoor
open Go.RowKit Go.Vc
open Go.Vc.Rep (rd)
open Go.Vc.Own (own)
/-- the name of the library's table of powers of ten, off the row's own list -/
def powName : String := (Rows.fnPatchPutRow.laid.map (fun x => x.1)).getD 2 "none"
/-- the library's variables that reading and writing numbers looks at -/
def NumV (w : World) : Prop := (∃ tp p, w.var? Tryd.prog "strconv.ErrRange" = some #[.iface tp p]) ∧ (∃ tp p, w.var? Tryd.prog "strconv.ErrSyntax" = some #[.iface tp p]) ∧ Lib.TabIs Tryd.prog w powName .u64 Lib.pow10Tab
theorem NumV.keep {w w' : World} (h : NumV w) (hb : Below w.heap.size w w') : NumV w' := by
  obtain ⟨⟨t1, p1, h1⟩, ⟨t2, p2, h2⟩, h3⟩ := h
  exact ⟨⟨t1, p1, var_keep h1 hb⟩, ⟨t2, p2, var_keep h2 hb⟩, var_keep h3 hb⟩
theorem I64_of {n : Int} (h : -9223372036854775808 ≤ n ∧ n ≤ 9223372036854775807) : I64 n := by unfold I64; omega
set_option maxHeartbeats 2000000 in
theorem number_any (s : ByteArray) (w : World) (hs : s.size ≤ 1048576) (hn : NumV w) :
    Calls Tryd.prog 49 #[.string s] w fun e w' => ∃ n, e = .returned (.tuple #[.int .i64 n, .bool (numI s).isSome]) ∧ (numI s = some n ∨ numI s = none) ∧ I64 n ∧ Below w.heap.size w w' := by
  obtain ⟨⟨t1, p1, hv1⟩, ⟨t2, p2, hv2⟩, htab⟩ := hn
  cases ha : Lib.atoiAll s.data.toList
  · rename_i v
    have hbd := Lib.atoiAll_bounds ha
    have hN : Hid (numI s = if bytesB (Lib.itoa v) = s then some v else none) := by show _ = _; unfold numI; rw [ha]
    have hb1 : ∀ w', (w' = w ∨ ∃ t, w' = Lib.bytesWorld w 5 t) → Below w.heap.size w w' := by
      rintro w' (rfl | ⟨t, rfl⟩)
      · exact Below.refl _ _
      · exact Lib.bytesWorld_below _ _ _
    go_enter Tryd.func49, Tryd.ntmps49
    go_wp2_with fail
    refine (Tryd.strconv_Atoi_ok s (by omega) v ha w).mono ?_
    rintro e w1 ⟨rfl, hw1⟩
    have hB1 := hb1 w1 hw1
    have htab1 : Lib.TabIs Tryd.prog w1 powName .u64 Lib.pow10Tab := var_keep htab hB1
    have HIT : Hid (Calls Tryd.prog 80 #[.int .i64 v] w1 fun e w' => e = .returned (.string ⟨(Lib.itoa v).toArray⟩) ∧ ∃ k os, w' = Sort.grow (w1.drewN k) os) := Any.strconv_Itoa Tryd.laysM171 v hbd.1 hbd.2 w1 htab1
    clear hw1 hb1
    go_wp2_with fail
    refine (HIT.out).mono ?_
    rintro e w2 ⟨rfl, k, os, rfl⟩
    have hB2 := hB1.trans ((grow_below w1 k os).mono hB1.size)
    obtain ⟨u, hu⟩ : ∃ u : ByteArray, u = ⟨(Lib.itoa v).toArray⟩ := ⟨_, rfl⟩
    have HU : Hid (numI s = if u = s then some v else none) := by show _ = _; rw [hu]; exact hN.out
    rw [← hu]
    clear hu hN htab htab1 hv1 hv2 ha
    cases he : decide (u = s) with
    | true =>
      have he2 : u = s := of_decide_eq_true he
      have HV : numI s = some v := by rw [HU.out, if_pos he2]
      clear he2
      go_wp2
      go_ret2
      exact ⟨v, by rw [HV]; rfl, .inl HV, I64_of hbd, hB2⟩
    | false =>
      have he2 : ¬ u = s := of_decide_eq_false he
      have HV : numI s = none := by rw [HU.out, if_neg he2]
      clear he2
      go_wp2
      go_ret2
      exact ⟨v, by rw [HV]; rfl, .inr HV, I64_of hbd, hB2⟩
  · skip
    have hN : numI s = none := by unfold numI; rw [ha]
    have HN := Lib.hid hN
    clear hN
    have HSY : Hid (Calls Tryd.prog 86 #[.string s] w fun e w' => ∃ N, e = .returned (.tuple #[.int .i64 0, .iface 148 (.pointer (some ⟨N, 0, none⟩))]) ∧ Below w.heap.size w w') :=
      (Any.strconv_Atoi_syntax_var Tryd.laysC172 s (by omega) ha t2 p2 w hv2).mono fun e w' ⟨N, h1, _, _, h4⟩ => ⟨N, h1, h4⟩
    go_enter Tryd.func49, Tryd.ntmps49
    go_wp2_with fail
    refine (HSY.out).mono ?_
    rintro e w1 ⟨N, rfl, hb1⟩
    clear ha htab hv1 hv2
    go_wp2
    go_ret2
    exact ⟨0, by rw [HN.out]; rfl, .inr HN.out, i64_zero, hb1⟩
  · skip
    have hN : numI s = none := by unfold numI; rw [ha]
    have hsat : I64 (Lib.atoiSat s.data.toList) := by unfold Lib.atoiSat I64; split <;> omega
    obtain ⟨z, hz⟩ : ∃ z, z = Lib.atoiSat s.data.toList := ⟨_, rfl⟩
    have HC := Lib.hid (fun hl => Tryd.strconv_Atoi_range_var s hl ha t1 p1 w hv1)
    rw [← hz] at hsat HC
    have HN := Lib.hid hN
    clear hN hz
    go_enter Tryd.func49, Tryd.ntmps49
    go_wp2_with fail
    refine (HC.out (by omega)).mono ?_
    rintro e w1 ⟨N, rfl, _, _, hb1⟩
    clear ha htab hv1 hv2 HC
    go_wp2
    go_ret2
    exact ⟨z, by rw [HN.out]; rfl, .inr HN.out, hsat, hb1⟩
theorem split10_any (s : ByteArray) (w : World) (hs : ShortS s) (hm : ML w) :
    Calls Tryd.prog 85 #[.string s, .string ⟨#[10]⟩] w fun e w' => ∃ a c, e = .returned (.slice a (pieces 10 s).length c) ∧ IsSlice (fun b => w.heap.size ≤ b ∧ b < w'.heap.size) w' a c (pieces 10 s) ∧ Below w.heap.size w w' := by
  obtain ⟨m, hm⟩ := hm
  have hc := countB_pieces 10 s
  refine (Tryd.strings_Split s ⟨#[10]⟩ m w hs hm (by decide)).mono fun e w' h => ?_
  obtain ⟨he, hw⟩ := h
  rw [splitB_pieces] at hw
  have hl : (pieces 10 s).length ≤ maxLen := by
    rw [pieces_len, cutL_len]
    have := List.count_le_length (a := (10 : UInt8)) (l := s.data.toList)
    have h2 : s.data.toList.length = s.size := by simp
    unfold ShortS at hs
    unfold maxLen
    omega
  have hz : ∀ x ∈ pieces 10 s, x.size ≤ maxLen := by
    intro x hx
    obtain ⟨i, hi, rfl⟩ := List.getElem_of_mem hx
    have := pieces_small hi
    unfold ShortS at hs
    unfold maxLen
    omega
  refine ⟨some ⟨w.heap.size, 0, none⟩, (pieces 10 s).length, ?_, ?_, ?_⟩
  · rw [he, hc]
  · rw [hw]
    have h := lit_strs (pieces 10 s) (heap_alloc_new w (.cells ((pieces 10 s).map Value.string).toArray 9)) hz hl
    exact h.frame (fun b hb _ => ⟨rfl, by have hb2 : b = w.heap.size := hb; simp; omega⟩)
  · rw [hw]
    exact (Below.refl _ _).alloc (Nat.le_refl _) _
theorem pieces_pos (s : ByteArray) : 0 < (pieces 10 s).length := by rw [pieces_len, cutL_len]; omega
theorem last_at (P : List ByteArray) (d : ByteArray) (h : P.length - 1 < P.length) : P.getLastD d = P[P.length - 1] := by
  cases P with
  | nil => simp at h
  | cons x r =>
    rw [List.getLastD_eq_getLast?, List.getLast?_eq_getElem?]
    simp
theorem pieces_none : pieces 10 (bytesB []) = [bytesB []] := rfl
set_option maxHeartbeats 2000000 in
theorem linesOf_any (s : ByteArray) (w : World) (hs : ShortS s) (hm : ML w) :
    Calls Tryd.prog 48 #[.string s] w fun e w' => ∃ a c, e = .returned (.tuple #[.slice a (pieces 10 s).dropLast.length c, .bool (decide ((pieces 10 s).getLastD (bytesB []) = bytesB []))]) ∧ IsSlice (fun b => w.heap.size ≤ b ∧ b < w'.heap.size) w' a c (pieces 10 s).dropLast ∧ Below w.heap.size w w' := by
  by_cases h0 : s = ⟨#[]⟩
  · subst h0
    have hp : pieces 10 (⟨#[]⟩ : ByteArray) = [bytesB []] := rfl
    go_enter Tryd.func48, Tryd.ntmps48
    go_wp2
    go_ret2
    exact ⟨none, 0, by rw [hp]; rfl, by rw [hp]; exact ⟨Nat.le_refl _, Nat.zero_le _, fun i hi => absurd hi (by simp)⟩, Below.refl _ _⟩
  · have d0 : s.toList.isEmpty = false := by rw [empty_dec]; exact decide_eq_false h0
    have hpos := pieces_pos s
    have HC := Lib.hid (split10_any s w hs hm)
    obtain ⟨P, hP⟩ : ∃ P, P = pieces 10 s := ⟨_, rfl⟩
    rw [← hP] at hpos HC
    have HL := Lib.hid (last_at P (bytesB []) (by omega))
    try rw [← hP]
    clear h0 hP
    go_enter Tryd.func48, Tryd.ntmps48
    go_wp2_with fail
    refine (HC.out).mono ?_
    rintro e w1 ⟨a, c, rfl, hS, hb1⟩
    have hle := hS.le
    have hcap := hS.1
    obtain ⟨g, off, hag, hcl, hsz⟩ := hS.str (i := P.length - 1) (by omega)
    subst hag
    have hwr : IntKind.i64.wrap ((P.length : Int) - 1) = ((P.length - 1 : Nat) : Int) := by rw [IntWalk.i64_in _ (by omega)]; omega
    have hct := run_cut0 slz_string.slt (some ⟨g, off, none⟩) P.length c (P.length - 1) (by omega)
    obtain ⟨k, hk⟩ : ∃ k, k = P.length - 1 := ⟨_, rfl⟩
    have hkl : k < P.length := by omega
    have hkl2 : P.length ≤ k + 1 := by omega
    obtain ⟨z, hz⟩ : ∃ z, z = P[P.length - 1]'(by omega) := ⟨_, rfl⟩
    rw [← hz] at hcl HL
    rw [← hk] at hcl hwr hct
    clear hz hk HC
    have z0 := BW.cell hcl
    go_wp2
    refine wp_region_bw (by kernel_rfl) (by kernel_rfl) ?_
    repeat (go_big_quiet_step (fail))
    refine wpQuiet_nil ?_
    rintro w1 ⟨⟨_, hbw⟩, rfl⟩
    go_wp2
    go_ret2
    have hdl : P.dropLast = P.take k := by rw [List.dropLast_eq_take]; congr 1; omega
    refine ⟨some ⟨g, off, none⟩, c, ?_, ?_, hb1.trans (hbw.mono hb1.size)⟩
    · have e1 : P.dropLast.length = k := by rw [hdl, List.length_take]; omega
      have e2 : z.toList.isEmpty = decide (P.getLastD (bytesB []) = bytesB []) := by rw [HL.out, empty_dec]; rfl
      rw [e1, ← e2]; rfl
    · rw [hdl]
      exact (hS.take k).frame fun b hb hl => ⟨hbw.block b hl, hb.1, by have := hbw.size; omega⟩
theorem numF_next {l : List UInt8} {i : Nat} {n : Int} {R : Option Int} {k : Nat} (H : R = numF (l.drop k) i n) (h : k < l.length) (hc : ¬ (l[k].toNat < 48 ∨ 57 < l[k].toNat ∨ 6 ≤ i)) : R = numF (l.drop (k + 1)) (i + 1) (n * 10 + (l[k].toNat - 48 : Nat)) := by
  rw [H, List.drop_eq_getElem_cons h, numF, if_neg hc]
theorem numF_bad {l : List UInt8} {i : Nat} {n : Int} {R : Option Int} {k : Nat} (H : R = numF (l.drop k) i n) (h : k < l.length) (hc : l[k].toNat < 48 ∨ 57 < l[k].toNat ∨ 6 ≤ i) : R = none := by
  rw [H, List.drop_eq_getElem_cons h, numF, if_pos hc]
theorem numF_end {l : List UInt8} {i : Nat} {n : Int} {R : Option Int} {k : Nat} (H : R = numF (l.drop k) i n) (h : ¬ k < l.length) : R = some n := by
  rw [H, List.drop_eq_nil_of_le (by omega), numF]
theorem ten_step {n : Int} {k : Nat} {c : Nat} (h0 : 0 ≤ n) (h1 : n < 10 ^ k) (hk : k < 6) (hc : c ≤ 9) : 0 ≤ n * 10 + c ∧ n * 10 + c < 10 ^ (k + 1) ∧ n ≤ 1000000 := by
  have e : (10 : Int) ^ (k + 1) = 10 ^ k * 10 := Int.pow_succ _ _
  have h2 : (10 : Int) ^ k ≤ 10 ^ 6 := by
    have : (10 : Nat) ^ k ≤ 10 ^ 6 := Nat.pow_le_pow_right (by decide) (by omega)
    exact_mod_cast this
  have h3 : (10 : Int) ^ 6 = 1000000 := by decide
  omega
set_option maxHeartbeats 4000000 in
theorem l1Num_any (s : ByteArray) (w : World) (hs : s.size ≤ maxLen) :
    Calls Tryd.prog 57 #[.string s] w fun e w' => e = .returned (.int .i64 (numS s)) ∧ I64 (numS s) ∧ w = w' := by
  unfold maxLen at hs
  have hsl : s.data.toList.length = s.size := by simp
  have HS : Hid (numS s = match numF s.data.toList 0 0 with | none => -1 | some n => if s.size = 0 ∨ (1 < s.size ∧ (s.data.toList.headD 0).toNat = 48) then -1 else n) := rfl
  obtain ⟨R, hR⟩ : ∃ R, R = numF s.data.toList 0 0 := ⟨_, rfl⟩
  rw [← hR] at HS
  have HR : Hid (R = numF (s.data.toList.drop 0) 0 0) := by show R = _; rw [hR]; rfl
  clear hR
  have HEL := Lib.hid (show ∀ k (h : k < s.size) (h2 : k < s.data.toList.length), s.data.toList[k] = s[k] from fun k h h2 => by simp; rfl)
  go_enter Tryd.func57, Tryd.ntmps57
  go_wp2
  go_loop [3, 4] (fun n i => ∃ (k : Nat) (m : Int), k ≤ s.size ∧ i = .int .i64 k ∧ n = .int .i64 m ∧ k ≤ 6 ∧ 0 ≤ m ∧ m ≤ 1000000 ∧ Hid (m < 10 ^ k) ∧ Hid (R = numF (s.data.toList.drop k) k m)) (fun _ i => s.size - (intOf i).toNat)
  case atStart => exact ⟨0, 0, by omega, rfl, rfl, by omega, by omega, by omega, (by decide : (0 : Int) < 10 ^ 0), HR.out⟩
  case round =>
    clear HR
    obtain ⟨k, m, hk, rfl, rfl, hk6, hm0, hm1, HM, HR⟩ := hrel
    by_cases hlt : k < s.size
    · have hel := HEL.out k hlt (by omega)
      have hcc := s[k].toNat_lt
      by_cases h1 : s[k].toNat < 48
      · skip
        have HB := Lib.hid (numF_bad HR.out (by omega : k < s.data.toList.length) (by rw [hel]; omega))
        have HV : Hid (numS s = -1) := by show _ = _; rw [HS.out, HB.out]
        clear hel
        go_wp2
        go_ret
        exact ⟨by rw [HV.out]; rfl, by rw [HV.out]; unfold I64; omega, rfl⟩
      · by_cases h2 : 57 < s[k].toNat
        · skip
          have HB := Lib.hid (numF_bad HR.out (by omega : k < s.data.toList.length) (by rw [hel]; omega))
          have HV : Hid (numS s = -1) := by show _ = _; rw [HS.out, HB.out]
          clear hel
          go_wp2
          go_ret
          exact ⟨by rw [HV.out]; rfl, by rw [HV.out]; unfold I64; omega, rfl⟩
        · by_cases h3 : 6 ≤ k
          · skip
            have HB := Lib.hid (numF_bad HR.out (by omega : k < s.data.toList.length) (by rw [hel]; omega))
            have HV : Hid (numS s = -1) := by show _ = _; rw [HS.out, HB.out]
            clear hel
            go_wp2
            go_ret
            exact ⟨by rw [HV.out]; rfl, by rw [HV.out]; unfold I64; omega, rfl⟩
          · have HG := Lib.hid (numF_next HR.out (by omega : k < s.data.toList.length) (by rw [hel]; omega))
            rw [hel] at HG
            obtain ⟨t0, t1, t2⟩ := ten_step (c := s[k].toNat - 48) hm0 HM.out (by omega) (by omega)
            have ec : ((s[k].toNat - 48 : Nat) : Int) = (s[k].toNat : Int) - 48 := by omega
            rw [ec] at HG t0 t1
            have h16 : m * 10 + ((s[k].toNat : Int) - 48) ≤ 1000000 := by
              have h4 : (10 : Nat) ^ (k + 1) ≤ 10 ^ 6 := Nat.pow_le_pow_right (by decide) (by omega)
              have h5 : (10 : Int) ^ (k + 1) ≤ 10 ^ 6 := by exact_mod_cast h4
              have h6 : (10 : Int) ^ 6 = 1000000 := by decide
              omega
            have HT := Lib.hid t1
            have e1 : IntKind.i64.wrap (m * 10) = m * 10 := IntWalk.i64_in _ (by omega)
            have e2 : IntKind.u8.wrap ((s[k].toNat : Int) - 48) = (s[k].toNat : Int) - 48 := IntWalk.u8_in _ (by omega)
            have e3 : IntKind.i64.wrap ((s[k].toNat : Int) - 48) = (s[k].toNat : Int) - 48 := IntWalk.i64_in _ (by omega)
            have e4 : IntKind.i64.wrap (m * 10 + ((s[k].toNat : Int) - 48)) = m * 10 + ((s[k].toNat : Int) - 48) := IntWalk.i64_in _ (by omega)
            clear hel t1 ec hsl
            go_wp2
            go_round
            case rel => exact ⟨k + 1, _, by omega, by go_num, rfl, by omega, t0, h16, HT.out, HG.out⟩
            case measure => simp [intOf] <;> omega
    · have HE := Lib.hid (numF_end HR.out (by omega : ¬ k < s.data.toList.length))
      have HV : Hid (numS s = if s.size = 0 ∨ (1 < s.size ∧ (s.data.toList.headD 0).toNat = 48) then -1 else m) := by show _ = _; rw [HS.out, HE.out]
      have him : I64 m := by unfold I64; omega
      by_cases z0 : s.size = 0
      · have HN : Hid (numS s = -1) := by show _ = _; rw [HV.out, if_pos (.inl z0)]
        have hk0 : k = 0 := by omega
        go_wp2
        go_ret
        exact ⟨by rw [HN.out]; rfl, by rw [HN.out]; unfold I64; omega, rfl⟩
      · by_cases z1 : 1 < s.size
        · have hd : s.data.toList.headD 0 = s[0] := by
            have h := HEL.out 0 (by omega) (by omega)
            cases hl : s.data.toList with
            | nil => rw [hl] at hsl; simp at hsl; omega
            | cons x r =>
              simp only [hl, List.getElem_cons_zero] at h
              exact h
          rw [hd] at HV
          clear hd
          by_cases z2 : s[0].toNat = 48
          · have HN : Hid (numS s = -1) := by show _ = _; rw [HV.out, if_pos (.inr ⟨z1, z2⟩)]
            go_wp2
            go_ret
            exact ⟨by rw [HN.out]; rfl, by rw [HN.out]; unfold I64; omega, rfl⟩
          · have HN : Hid (numS s = m) := by show _ = _; rw [HV.out, if_neg (by omega)]
            have z3 : ((s[0].toNat : Int) == 48) = false := by rw [beq_eq_false_iff_ne]; omega
            have z4 : ((s.size : Int) == 0) = false := by rw [beq_eq_false_iff_ne]; omega
            go_wp2
            go_ret
            exact ⟨by rw [HN.out]; rfl, by rw [HN.out]; exact him, rfl⟩
        · have HN : Hid (numS s = m) := by show _ = _; rw [HV.out, if_neg (by omega)]
          go_wp2
          go_ret
          exact ⟨by rw [HN.out]; rfl, by rw [HN.out]; exact him, rfl⟩
end Go.Proofs.YthhmaclhggmneaaDoor
