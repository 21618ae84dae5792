/-
  Walks: a patch as lines, as the reference writes it.
-/
import Derived.Test.YthhmaclhggmneaaDoorWPut2
import Derived.Laws.IdiomStrings
set_option linter.unusedVariables false
namespace Go.Vc
theorem eq_bytes {X : ByteArray} {L : List UInt8} (h : X.data.toList = L) : X = bytesB L := by rw [← h, bytesB_data]
theorem cat_head {o t : ByteArray} {acc : List UInt8} {n : Int} (ho : o = bytesB acc) (ht : t.data.toList = Lib.itoa n) : o ++ ⟨#[64]⟩ ++ t ++ ⟨#[10]⟩ = bytesB (acc ++ headL n) := by
  refine eq_bytes ?_
  rw [data_app, data_app, data_app, ht, ho, bytesB_list]; simp [headL]
theorem cat_ln {o : ByteArray} {acc : List UInt8} (c : UInt8) (s : ByteArray) (ho : o = bytesB acc) : o ++ ⟨#[c]⟩ ++ s ++ ⟨#[10]⟩ = bytesB (acc ++ ln c s) := by
  refine eq_bytes ?_
  rw [data_app, data_app, data_app, ho, bytesB_list]; simp [ln]
theorem cat_size {o : ByteArray} {acc A : List UInt8} (ho : o = bytesB acc) (h : acc.length ≤ A.length) (hA : A.length ≤ 2272) : o.size ≤ 2272 := by
  rw [ho, bytesB_size]; omega
end Go.Vc
namespace Go.Proofs.YthhmaclhggmneaaDoor
open Go.RowKit Go.Vc
open Go.Vc.Rep (rd)
open Go.Vc.Own (own)
theorem conv_byte (w : World) (c : UInt8) (n : Int) (hn : n = (c.toNat : Int)) : (convert 36 9 (.slice (some ⟨w.heap.size, 0, none⟩) 1 1)).run Tryd.prog (w.alloc (.cells #[.int .u8 n] 5)) = .ok (.string ⟨#[c]⟩) (w.alloc (.cells #[.int .u8 n] 5)) := by
  subst hn
  refine run_convert_bytes_back _ 36 9 5 ⟨w.heap.size, 0, none⟩ 1 [c] Tryd.underlying36 Tryd.underlying5 Tryd.underlying9 ?_
  intro j hj
  have : j = 0 := by simpa using hj
  subst this
  show (w.alloc _).cell? ⟨w.heap.size, 0, none⟩ = _
  rw [cell_of_row _ _ 0 _ _ (0, 0) (heap_alloc_new _ _)]; rfl
theorem conv_at (w : World) (g : Nat) (c : UInt8) (n : Int) (hn : n = (c.toNat : Int)) (hw : w.cell? ⟨g, 0, none⟩ = some (.int .u8 n)) : (convert 36 9 (.slice (some ⟨g, 0, none⟩) 1 1)).run Tryd.prog w = .ok (.string ⟨#[c]⟩) w := by
  subst hn
  refine run_convert_bytes_back _ 36 9 5 ⟨g, 0, none⟩ 1 [c] Tryd.underlying36 Tryd.underlying5 Tryd.underlying9 ?_
  intro j hj
  have : j = 0 := by simpa using hj
  subst this
  exact hw
theorem conv_kept {w w5 : World} {n : Int} (c : UInt8) (hb : Below (w.alloc (.cells #[.int .u8 n] 5)).drew.heap.size (w.alloc (.cells #[.int .u8 n] 5)).drew w5) (hn : n = (c.toNat : Int)) : (convert 36 9 (.slice (some ⟨w.heap.size, 0, none⟩) 1 1)).run Tryd.prog w5 = .ok (.string ⟨#[c]⟩) w5 := by
  refine conv_at w5 _ c n hn ?_
  have h : (w.drew.alloc (.cells #[.int .u8 n] 5)).cell? ⟨w.heap.size, 0, none⟩ = some (.int .u8 n) := by
    show (w.drew.alloc _).cell? ⟨w.drew.heap.size, 0, none⟩ = _
    rw [cell_of_row _ _ 0 _ _ (0, 0) (heap_alloc_new w.drew _)]; rfl
  exact keepc h hb
theorem digit_nat {n : Nat} (h : n < 10) : ((UInt8.ofNat (48 + n)).toNat : Int) = 48 + n := by
  have : (UInt8.ofNat (48 + n)).toNat = 48 + n := by
    rw [UInt8.toNat_ofNat']
    omega
  omega
set_option maxHeartbeats 1000000 in
set_option maxRecDepth 100000 in
theorem l1Dec_digit (n : Nat) (h : n < 10) (w : World) : Calls Tryd.prog 83 #[.int .i64 n] w fun e w' => e = .returned (.string ⟨#[UInt8.ofNat (48 + n)]⟩) ∧ Below w.heap.size w w' := by
  have h1 : IntKind.i64.wrap (48 + (n : Int)) = 48 + n := IntWalk.i64_in _ (by omega)
  have h2 : IntKind.u8.wrap (48 + (n : Int)) = 48 + n := IntWalk.u8_in _ (by omega)
  have hdn := digit_nat h
  obtain ⟨c, hcn⟩ : ∃ c, c = UInt8.ofNat (48 + n) := ⟨_, rfl⟩
  rw [← hcn] at hdn ⊢
  clear hcn
  have hc := conv_byte w c (48 + n) hdn.symm
  clear hdn
  have hB : Below w.heap.size w (w.alloc (.cells #[.int .u8 (48 + (n : Int))] 5)) := (Below.refl _ _).alloc (Nat.le_refl _) _
  go_enter Tryd.func83, Tryd.ntmps83
  go_wp2
  go_ret
  exact ⟨rfl, hB⟩
set_option maxHeartbeats 1000000 in
set_option maxRecDepth 100000 in
theorem l1Dec_is (n : Int) (h0 : 0 ≤ n) (h1 : n ≤ 10) (w : World) : Calls Tryd.prog 83 #[.int .i64 n] w fun e w' => e = .returned (.string (bytesB (Lib.itoa n))) ∧ Below w.heap.size w w' := by
  by_cases h9 : n < 10
  · obtain ⟨k, rfl⟩ : ∃ k : Nat, n = (k : Int) := ⟨n.toNat, by omega⟩
    rw [itoa_digit h0 h9]
    exact l1Dec_digit k (by omega) w
  · obtain rfl : n = 10 := by omega
    rw [itoa_ten]
    have hc : (convert 36 9 (.slice (some ⟨w.heap.size, 0, none⟩) 1 1)).run Tryd.prog (w.alloc (.cells #[.int .u8 48] 5)).drew = .ok (.string ⟨#[48]⟩) (w.alloc (.cells #[.int .u8 48] 5)).drew := conv_byte w.drew 48 48 rfl
    have hd : (⟨#[UInt8.ofNat (48 + 1)]⟩ : ByteArray) = ⟨#[49]⟩ := rfl
    have e1 : IntKind.i64.wrap 48 = 48 := rfl
    have e2 : IntKind.u8.wrap 48 = 48 := rfl
    have e3 : IntKind.i64.wrap 1 = 1 := rfl
    have hone := fun w' => l1Dec_digit 1 (by decide) w'
    rw [hd] at hone
    have HO := Lib.hid hone
    clear hone hd
    go_enter Tryd.func83, Tryd.ntmps83
    go_wp2_with fail
    go_region_law (first
      | (go_simp; go_at_call 83; refine (HO.out _).mono ?_; rintro e w5 ⟨rfl, hb5⟩; have hcA := conv_byte w5 48 48 rfl; have hcB := conv_kept (w := w) 48 hb5 rfl; have hb6 := ((Below.refl w.heap.size w).alloc (Nat.le_refl _) (.cells #[.int .u8 48] 5)).drew.trans (hb5.mono (by simp)); have hm := True.intro)
      | (go_simp; go_at_call 83; refine (HO.out _).mono ?_; rintro e w5 ⟨rfl, hb5⟩; have hcA := conv_byte w5 48 48 rfl; have hb6 := ((Below.refl w.heap.size w).drew.trans (hb5.mono (Nat.le_refl _)))))
    all_goals
      go_wp2
      go_ret
      first
        | exact ⟨rfl, hb6⟩
        | exact ⟨rfl, hb6.alloc hb6.size _⟩
set_option maxHeartbeats 8000000 in
set_option maxRecDepth 100000 in
theorem l2Put_any {S : Nat → Prop} (v : Value) (d : List Hunk) (w : World) (hv : rd S w [v] d) (hd : patchB d = true) :
    Calls Tryd.prog 44 #[v] w fun e w' => e = .returned (.string (putB d)) ∧ Below w.heap.size w w' := by
  have hv := Rep.lt hv
  obtain ⟨a, cap, rfl, hs⟩ := rd_slice_elim hv
  have hle := hs.le
  have hpl := putL_len hd
  have HP := Lib.hid (fun (i : Nat) (hi : i < d.length) => patch_at hd hi)
  have hd8 := patch_len hd
  have hout0 : (⟨#[]⟩ : ByteArray) = bytesB [] := rfl
  clear hd
  go_enter Tryd.func44, Tryd.ntmps44
  go_wp2
  go_loopw [3, 4] (fun out i wr => (∃ (k : Nat) (acc : List UInt8) (o : ByteArray), k ≤ d.length ∧ i = .int .i64 k ∧ out = .string o ∧ o.size ≤ 2272 ∧ Hid (o = bytesB acc) ∧ Hid (putL d = acc ++ (d.drop k).flatMap hunkL)) ∧ Below w.heap.size w wr) (fun _ i _ => d.length - (intOf i).toNat)
  case atStart => exact ⟨⟨0, [], _, by omega, rfl, rfl, by decide, rfl, rfl⟩, Below.refl _ _⟩
  case round =>
    clear hout0
    obtain ⟨⟨k, acc, o, hk, rfl, rfl, hoz, HO, HA⟩, hb⟩ := hrel
    by_cases hlt : k < d.length
    · have HN := Lib.hid (flat_next HA.out hlt)
      have hal2 : ((acc ++ hunkL d[k])).length ≤ (putL d).length := flat_le HN.out
      obtain ⟨p0, p1, p2, p3, _⟩ := HP.out k hlt
      obtain ⟨g, off, a1, c1, a2, c2, hag, hc0, hc1, hc2, hi0, hs1, hs2⟩ := hs.hunk hlt
      subst hag
      obtain ⟨x, hx⟩ : ∃ x, x = d[k] := ⟨_, rfl⟩
      rw [← hx] at hc0 hc1 hc2 hi0 hs1 hs2 p0 p1 p2 p3 HN hal2
      have hc0r := keepc hc0 hb
      have hle1 := hs1.le
      have hle2 := hs2.le
      obtain ⟨A1, hA1⟩ : ∃ A, A = (acc ++ headL x.at_) ++ x.less.flatMap (ln 45) := ⟨_, rfl⟩
      obtain ⟨A2, hA2⟩ : ∃ A, A = A1 ++ x.more.flatMap (ln 43) := ⟨_, rfl⟩
      have hAx : acc ++ hunkL x = A2 := by rw [hA2, hA1]; unfold hunkL; simp
      rw [hAx] at HN hal2
      have hA12 : A1.length ≤ A2.length := by rw [hA2]; simp
      have HG1 : Hid (A1 = (acc ++ headL x.at_) ++ (x.less.drop 0).flatMap (ln 45)) := by show A1 = _; rw [hA1]; rfl
      have HG2 : Hid (A2 = A1 ++ (x.more.drop 0).flatMap (ln 43)) := by show A2 = _; rw [hA2]; rfl
      have HX := Lib.hid hx
      clear hx hA1 hA2 hAx
      obtain ⟨t, ht⟩ : ∃ t, t = bytesB (Lib.itoa x.at_) := ⟨_, rfl⟩
      have HIT := Lib.hid (fun w => l1Dec_is x.at_ p0 p1 w)
      have htz : t.size ≤ 2 := by rw [ht, bytesB_size]; exact itoa_len p0 p1
      have HTD : Hid (t.data.toList = Lib.itoa x.at_) := by show _ = _; rw [ht, bytesB_list]
      rw [← ht] at HIT
      clear ht
      go_wp2_with fail
      refine (HIT.out _).mono ?_
      rintro e w3 ⟨rfl, hb3⟩
      have hBw := hb.trans (hb3.mono hb.size)
      have hc1 := keepc hc1 hBw
      have hc2 := keepc hc2 hBw
      clear hc0 hc0r
      have HO1 : Hid (o ++ ⟨#[64]⟩ ++ t ++ ⟨#[10]⟩ = bytesB (acc ++ headL x.at_)) := cat_head HO.out HTD.out
      have hoz1 := cat_size HO1.out (flat_le HG1.out) (by omega)
      go_wp2
      go_loop [3, 5] (fun out i => ∃ (n : Nat) (acc2 : List UInt8) (o2 : ByteArray), n ≤ x.less.length ∧ i = .int .i64 n ∧ out = .string o2 ∧ o2.size ≤ 2272 ∧ Hid (o2 = bytesB acc2) ∧ Hid (A1 = acc2 ++ (x.less.drop n).flatMap (ln 45))) (fun _ i => x.less.length - (intOf i).toNat)
      case atStart => exact ⟨0, _, _, by omega, rfl, rfl, hoz1, HO1.out, HG1.out⟩
      case round =>
        clear HO1 hoz1 HG1
        obtain ⟨n, acc2, o2, hn, rfl, rfl, hoz2, HO2, HI⟩ := hrel
        by_cases hln : n < x.less.length
        · have HM := Lib.hid (flat_next HI.out hln)
          have hlz := line_size p2 hln
          obtain ⟨g5, off5, hag5, hd5, _⟩ := (hs1.keep hBw).str hln
          subst hag5
          obtain ⟨s, hsx⟩ : ∃ s, s = x.less[n] := ⟨_, rfl⟩
          rw [← hsx] at hd5 HM hlz
          have HC := Lib.hid (cat_ln 45 s HO2.out)
          have hoz3 := cat_size HC.out (flat_le HM.out) (by omega)
          have HZ := Lib.hid hoz3
          clear hsx HI hoz3
          go_wp2
          go_round
          case rel => exact ⟨n + 1, _, _, by omega, by go_num, rfl, HZ.out, HC.out, HM.out⟩
          case measure => simp [intOf] <;> omega
        · have HE2 := Lib.hid (flat_end HI.out hln)
          have HO3 : Hid (o2 = bytesB A1) := by show o2 = _; rw [HE2.out]; exact HO2.out
          clear HO2 HI HE2
          have HO2 : Hid (o2 = bytesB A1) := HO3.out
          have hoz2 := cat_size HO2.out (flat_le HG2.out) (by omega)
          go_wp2
          go_loop [3, 6] (fun out i => ∃ (n : Nat) (acc2 : List UInt8) (o2 : ByteArray), n ≤ x.more.length ∧ i = .int .i64 n ∧ out = .string o2 ∧ o2.size ≤ 2272 ∧ Hid (o2 = bytesB acc2) ∧ Hid (A2 = acc2 ++ (x.more.drop n).flatMap (ln 43))) (fun _ i => x.more.length - (intOf i).toNat)
          case atStart => exact ⟨0, _, _, by omega, rfl, rfl, hoz2, HO2.out, HG2.out⟩
          case round =>
            clear HO2 hoz2 HG2
            obtain ⟨n, acc2, o2, hn, rfl, rfl, hoz2, HO2, HI⟩ := hrel
            by_cases hln : n < x.more.length
            · have HM := Lib.hid (flat_next HI.out hln)
              have hlz := line_size p3 hln
              obtain ⟨g5, off5, hag5, hd5, _⟩ := (hs2.keep hBw).str hln
              subst hag5
              obtain ⟨s, hsx⟩ : ∃ s, s = x.more[n] := ⟨_, rfl⟩
              rw [← hsx] at hd5 HM hlz
              have HC := Lib.hid (cat_ln 43 s HO2.out)
              have hoz3 := cat_size HC.out (flat_le HM.out) (by omega)
              have HZ := Lib.hid hoz3
              clear hsx HI hoz3
              go_wp2
              go_round
              case rel => exact ⟨n + 1, _, _, by omega, by go_num, rfl, HZ.out, HC.out, HM.out⟩
              case measure => simp [intOf] <;> omega
            · have HE2 := Lib.hid (flat_end HI.out hln)
              have HO4 : Hid (o2 = bytesB A2) := by show o2 = _; rw [HE2.out]; exact HO2.out
              go_wp2
              go_roundw
              case rel => exact ⟨⟨k + 1, A2, o2, by omega, by go_num, rfl, hoz2, HO4.out, HN.out⟩, hBw⟩
              case measure => simp [intOf] <;> omega
    · have HE := Lib.hid (flat_end HA.out hlt)
      have HPB : putB d = o := (congrArg bytesB HE.out).trans HO.out.symm
      go_wp2
      go_ret
      exact ⟨by rw [HPB]; rfl, hb⟩
set_option maxHeartbeats 2000000 in
theorem specPatchPut {S : Nat → Prop} (v : Value) (d : List Hunk) (w : World) (hv : rd S w [v] d) :
    Calls Tryd.prog 15 #[v] w fun e w' => e = .returned (.string (patchPut d)) ∧ Below w.heap.size w w' := by
  cases hd : patchB d with
  | false =>
    have HP : patchPut d = bytesB [] := by unfold patchPut; rw [if_neg (by rw [hd]; simp)]
    go_enter Tryd.func15, Tryd.ntmps15
    go_wp2_with fail
    refine (l2Ok_is _ d _ hv hd).mono ?_
    rintro e w1 ⟨rfl, hb1⟩
    go_wp2
    go_ret
    exact ⟨by rw [HP]; rfl, hb1⟩
  | true =>
    have HP : patchPut d = putB d := by unfold patchPut; rw [if_pos hd]
    go_enter Tryd.func15, Tryd.ntmps15
    go_wp2_with fail
    refine (l2Ok_is _ d _ hv hd).mono ?_
    rintro e w1 ⟨rfl, hb1⟩
    go_wp2_with fail
    refine (l2Put_any _ d _ (Rep.keep (Rep.lt hv) hb1) hd).mono ?_
    rintro e w2 ⟨rfl, hb2⟩
    go_wp2
    go_ret
    exact ⟨by rw [HP]; rfl, hb1.trans (hb2.mono hb1.size)⟩
end Go.Proofs.YthhmaclhggmneaaDoor
