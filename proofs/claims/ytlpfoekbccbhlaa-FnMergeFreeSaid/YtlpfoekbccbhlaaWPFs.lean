/-
  Walks: patches that are apart, as the reference has it.
-/
import Derived.Test.YtlpfoekbccbhlaaPlPF
import Derived.Test.YtlpfoekbccbhlaaWP1
set_option linter.unusedVariables false
namespace Go.Proofs.Ytlpfoekbccbhlaa
open Go.RowKit Go.Vc
open Go.Vc.Rep (rd)
open Go.Vc.Own (own)
set_option maxHeartbeats 4000000 in
set_option maxRecDepth 100000 in
theorem l2Apart_any (x y : Hunk) (vx vy : Value) {b1 d1 : Option Addr} {c1 e1 : Nat} (w : World) (hx : (0 ≤ x.at_ ∧ x.at_ ≤ 10) ∧ x.less.length ≤ 10 ∧ x.more.length ≤ 10) (hy : (0 ≤ y.at_ ∧ y.at_ ≤ 10) ∧ y.less.length ≤ 10 ∧ y.more.length ≤ 10) {r : Bool} (hr : apartB x y = r) :
    Calls Try.prog 46 #[.agg #[.int .i64 x.at_, .slice b1 x.less.length c1, vx], .agg #[.int .i64 y.at_, .slice d1 y.less.length e1, vy]] w fun e w' => e = .returned (.bool r) ∧ Below w.heap.size w w' := by
  have s1 : IntKind.i64.wrap (x.at_ + (x.less.length : Int)) = x.at_ + (x.less.length : Int) := IntWalk.i64_in _ (by omega)
  have s2 : IntKind.i64.wrap (y.at_ + (y.less.length : Int)) = y.at_ + (y.less.length : Int) := IntWalk.i64_in _ (by omega)
  have HB : Below w.heap.size w ((w.alloc (.cells #[.int .i64 x.at_, .slice b1 x.less.length c1, vx] 40)).alloc (.cells #[.int .i64 y.at_, .slice d1 y.less.length e1, vy] 40)) := ((Below.refl _ _).alloc (Nat.le_refl _) _).alloc (by simp) _
  by_cases h1 : x.at_ + (x.less.length : Int) < y.at_
  · have d1 : decide (x.at_ + (x.less.length : Int) < y.at_) = true := decide_eq_true h1
    have HR : Hid (r = true) := by show _ = _; rw [← hr, apart_1 (by omega)]
    clear h1 hr
    go_enter Try.func46, Try.ntmps46
    go_wp2
    go_ret
    exact ⟨ret_bool HR.out.symm, HB⟩
  · have d1 : decide (x.at_ + (x.less.length : Int) < y.at_) = false := decide_eq_false h1
    by_cases h2 : y.at_ + (y.less.length : Int) < x.at_
    · have d2 : decide (y.at_ + (y.less.length : Int) < x.at_) = true := decide_eq_true h2
      have HR : Hid (r = true) := by show _ = _; rw [← hr, apart_2 (by omega)]
      clear h1 h2 hr
      go_enter Try.func46, Try.ntmps46
      go_wp2
      go_ret
      exact ⟨ret_bool HR.out.symm, HB⟩
    · have d2 : decide (y.at_ + (y.less.length : Int) < x.at_) = false := decide_eq_false h2
      have HR : Hid (r = false) := by show _ = _; rw [← hr, apart_f (by omega) (by omega)]
      clear h1 h2 hr
      go_enter Try.func46, Try.ntmps46
      go_wp2
      go_ret
      exact ⟨ret_bool HR.out.symm, HB⟩
set_option maxHeartbeats 8000000 in
set_option maxRecDepth 100000 in
theorem l2Free_any {S T : Nat → Prop} (v u : Value) (a b : List Hunk) (w : World) (hv : rd S w [v] a) (hu : rd T w [u] b) (ea : patchB a = true) (eb : patchB b = true) {r : Bool} (hr : freeF a b = r) :
    Calls Try.prog 32 #[v, u] w fun e w' => e = .returned (.bool r) ∧ Below w.heap.size w w' := by
  obtain ⟨a1, cap1, rfl, hs⟩ := rd_slice_elim (Rep.lt hv)
  obtain ⟨a2, cap2, rfl, ht⟩ := rd_slice_elim (Rep.lt hu)
  have HR : Hid (r = freeF (a.drop 0) b) := hr.symm
  have hla := patch_len ea
  have hlb := patch_len eb
  have HPA := Lib.hid (fun (i : Nat) (hi : i < a.length) => patch_few ea hi)
  have HPB := Lib.hid (fun (i : Nat) (hi : i < b.length) => patch_few eb hi)
  clear hr hv hu ea eb
  go_enter Try.func32, Try.ntmps32
  go_wp2
  go_loopw [5] (fun i wr => (∃ k : Nat, k ≤ a.length ∧ i = .int .i64 k ∧ Hid (r = freeF (a.drop k) b)) ∧ Below w.heap.size w wr) (fun i _ => a.length - (intOf i).toNat)
  case atStart => exact ⟨⟨0, by omega, rfl, HR.out⟩, Below.refl _ _⟩
  case round =>
    obtain ⟨⟨k, hk, rfl, HA⟩, hb⟩ := hrel
    obtain ⟨wx, hwx⟩ : ∃ wx : World, wx = wr := ⟨_, rfl⟩
    subst hwx
    have hsx := hb.size
    by_cases hlt : k < a.length
    · obtain ⟨g, off, b1, c1, b2, c2, hag, q0, q1, q2, hi0, hl1, hl2⟩ := (hs.keep hb).hunk hlt
      subst hag
      have hpa := HPA.out k hlt
      have HY := Lib.hid (fun h => free_hit HA.out hlt h)
      have HN := Lib.hid (fun h => free_bad HA.out hlt h)
      obtain ⟨x, hx⟩ : ∃ x, x = a[k] := ⟨_, rfl⟩
      rw [← hx] at q0 q1 q2 hi0 hpa HY HN
      obtain ⟨R, hR⟩ : ∃ R, b.all (apartB x) = R := ⟨_, rfl⟩
      rw [hR] at HY HN
      have HR0 : Hid (R = (b.drop 0).all (apartB x)) := hR.symm
      clear hx hl1 hl2 hR HA
      go_wp2
      go_loopw [6] (fun i wr => (∃ j : Nat, j ≤ b.length ∧ i = .int .i64 j ∧ Hid (R = (b.drop j).all (apartB x))) ∧ Below wx.heap.size wx wr) (fun i _ => b.length - (intOf i).toNat)
      case atStart => exact ⟨⟨0, by omega, rfl, HR0.out⟩, Below.refl _ _⟩
      case round =>
        obtain ⟨⟨j, hj, rfl, HB⟩, hb2⟩ := hrel
        obtain ⟨wy, hwy⟩ : ∃ wy : World, wy = wr := ⟨_, rfl⟩
        subst hwy
        have hsy := hb2.size
        have hBy := hb.trans (hb2.mono hsx)
        by_cases hlj : j < b.length
        · obtain ⟨g2, off2, d1, e1, d2, e2, hag2, r0, r1, r2, hj0, hm1, hm2⟩ := (ht.keep hBy).hunk hlj
          subst hag2
          have hpb := HPB.out j hlj
          have HY2 := Lib.hid (fun h => row_hit HB.out hlj h)
          have HN2 := Lib.hid (fun h => row_bad HB.out hlj h)
          obtain ⟨y, hy⟩ : ∃ y, y = b[j] := ⟨_, rfl⟩
          rw [← hy] at r0 r1 r2 hj0 hpb HY2 HN2
          have s0 := BW.cell r0
          have s1 := BW.cell r1
          have s2 := BW.cell r2
          have t0 := BW.cell (keepc q0 hb2)
          have t1 := BW.cell (keepc q1 hb2)
          have t2 := BW.cell (keepc q2 hb2)
          clear hy hm1 hm2 HB
          cases hap : apartB x y with
          | false =>
            have HZ := Lib.hid (HN.out (HN2.out hap))
            go_wp2
            refine wp_region_bw (by kernel_rfl) (by kernel_rfl) ?_
            repeat (go_big_quiet_step ((first | (go_at_call 46; exact Calls.bw (l2Apart_any x y _ _ _ hpa hpb hap)))))
            refine wpQuiet_nil ?_
            rintro w1 ⟨⟨_, hbw⟩, rfl⟩
            go_wp2
            go_ret
            exact ⟨ret_bool HZ.out.symm, hBy.trans (hbw.mono hBy.size)⟩
          | true =>
            have HZ := Lib.hid (HY2.out hap)
            go_wp2
            refine wp_region_bw (by kernel_rfl) (by kernel_rfl) ?_
            repeat (go_big_quiet_step ((first | (go_at_call 46; exact Calls.bw (l2Apart_any x y _ _ _ hpa hpb hap)))))
            refine wpQuiet_nil ?_
            rintro w1 ⟨⟨_, hbw⟩, rfl⟩
            clear hap
            go_wp2
            go_roundw
            case rel => exact ⟨⟨j + 1, by omega, by go_num, HZ.out⟩, hb2.trans (hbw.mono hsy)⟩
            case measure => simp [intOf] <;> omega
        · have HZ := Lib.hid (HY.out (row_end HB.out hlj))
          go_wp2
          go_roundw
          case rel => exact ⟨⟨k + 1, by omega, by go_num, HZ.out⟩, hb.trans (hb2.mono hsx)⟩
          case measure => simp [intOf] <;> omega
    · have HZ := Lib.hid (free_end HA.out hlt)
      go_wp2
      go_ret
      exact ⟨ret_bool HZ.out.symm, hb⟩
set_option maxHeartbeats 4000000 in
set_option maxRecDepth 100000 in
theorem specPatchFree {S T : Nat → Prop} (v u : Value) (a b : List Hunk) (w : World) (hv : rd S w [v] a) (hu : rd T w [u] b) {r : Bool} (hr : freeB a b = r) :
    Calls Try.prog 16 #[v, u] w fun e w' => e = .returned (.bool r) ∧ Below w.heap.size w w' := by
  obtain ⟨a1, cap1, rfl, hs⟩ := rd_slice_elim (Rep.lt hv)
  obtain ⟨a2, cap2, rfl, ht⟩ := rd_slice_elim (Rep.lt hu)
  clear hv hu
  cases ea : patchB a with
  | false =>
    have HR : Hid (r = false) := by show _ = _; rw [← hr, free_no1 ea]
    clear hr
    go_enter Try.func16, Try.ntmps16
    go_wp2_with fail
    refine (l2Ok_is _ a _ hs.rd ea).mono ?_
    rintro e w1 ⟨rfl, hb1⟩
    go_wp2
    go_ret
    exact ⟨ret_bool HR.out.symm, hb1⟩
  | true =>
    cases eb : patchB b with
    | false =>
      have HR : Hid (r = false) := by show _ = _; rw [← hr, free_no2 eb]
      clear hr
      go_enter Try.func16, Try.ntmps16
      go_wp2_with fail
      refine (l2Ok_is _ a _ hs.rd ea).mono ?_
      rintro e w1 ⟨rfl, hb1⟩
      go_wp2_with fail
      refine (l2Ok_is _ b _ (ht.keep hb1).rd eb).mono ?_
      rintro e w2 ⟨rfl, hb2⟩
      go_wp2
      go_ret
      exact ⟨ret_bool HR.out.symm, hb1.trans (hb2.mono hb1.size)⟩
    | true =>
      have hrf : freeF a b = r := by rw [← hr, free_ok ea eb]
      clear hr
      go_enter Try.func16, Try.ntmps16
      go_wp2_with fail
      refine (l2Ok_is _ a _ hs.rd ea).mono ?_
      rintro e w1 ⟨rfl, hb1⟩
      go_wp2_with fail
      refine (l2Ok_is _ b _ (ht.keep hb1).rd eb).mono ?_
      rintro e w2 ⟨rfl, hb2⟩
      have hW := hb1.trans (hb2.mono hb1.size)
      go_wp2_with fail
      refine (l2Free_any _ _ a b _ (hs.keep hW).rd (ht.keep hW).rd ea eb hrf).mono ?_
      rintro e w3 ⟨rfl, hb3⟩
      clear hrf
      go_wp2
      go_ret
      exact ⟨rfl, hW.trans (hb3.mono hW.size)⟩
end Go.Proofs.Ytlpfoekbccbhlaa
