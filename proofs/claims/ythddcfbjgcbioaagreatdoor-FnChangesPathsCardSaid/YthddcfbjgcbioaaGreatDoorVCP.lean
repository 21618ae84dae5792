/-
  Walks: changes that are ok, and their paths, as the reference has it. / Walks: changes that are ok, and their paths, as the reference has it, all of them. / What an append leaves alone, and a slice of rows read. No program is in sight here. / Walks: changes drawn, a tree and changes drawn.
-/
import Derived.Test.YthddcfbjgcbioaaGreatDoorVD1
import Derived.Test.YthddcfbjgcbioaaGreatDoorVCK
import Derived.Test.YthddcfbjgcbioaaGreatDoorVJJ
import Derived.Test.YthddcfbjgcbioaaGreatDoorVL
import Derived.Test.YthddcfbjgcbioaaGreatDoorVD
import Derived.Test.YthddcfbjgcbioaaGreatDoorVCH
import Derived.Test.YthddcfbjgcbioaaGreatDoorVR
import Derived.Test.YthddcfbjgcbioaaGreatDoorVB
import Derived.Test.YthddcfbjgcbioaaGreatDoorVDJ
import Derived.Test.YthddcfbjgcbioaaGreatDoorSplit
import Derived.Test.YthddcfbjgcbioaaGreatDoorVCS
import Derived.Test.YthddcfbjgcbioaaGreatDoorVFS
set_option linter.unusedVariables false
namespace Go.Vc
theorem freeC_bad {l : List Change} {k : Nat} {p : ByteArray} {R : Bool} (H : R = freeC (l.drop k) p) (hk : k < l.length) (h : l[k].path = p ∨ l[k].dst = p) : R = false := by
  rw [H, drop_cons l k hk, freeC, List.all_cons]
  rcases h with h | h
  · rw [decide_eq_true h]; simp
  · rw [decide_eq_true h]; simp
theorem freeC_next {l : List Change} {k : Nat} {p : ByteArray} {R : Bool} (H : R = freeC (l.drop k) p) (hk : k < l.length) (h1 : ¬ l[k].path = p) (h2 : ¬ l[k].dst = p) : R = freeC (l.drop (k + 1)) p := by
  rw [H, drop_cons l k hk, freeC, List.all_cons, decide_eq_false h1, decide_eq_false h2]
  rfl
theorem freeC_end {l : List Change} {k : Nat} {p : ByteArray} {R : Bool} (H : R = freeC (l.drop k) p) (hk : ¬ k < l.length) : R = true := by rw [H, drop_nil l k hk]; rfl
end Go.Vc
namespace Go.Proofs.YthddcfbjgcbioaaGreatDoor
open Go.RowKit Go.Vc
open Go.Vc.Rep (rd)
open Go.Vc.Own (own)
set_option maxHeartbeats 4000000 in
set_option maxRecDepth 100000 in
theorem l5Free_any {S : Nat → Prop} (v : Value) (l : List Change) (p : ByteArray) (w : World) (hv : rd S w [v] l) {R : Bool} (hR : freeC l p = R) :
    Calls Tryz.prog 55 #[v, .string p] w fun e w' => e = .returned (.bool R) ∧ w = w' := by
  obtain ⟨a, cap, rfl, hs⟩ := rd_slice_elim (Rep.lt hv)
  have hle := hs.le
  have HR : Hid (R = freeC (l.drop 0) p) := hR.symm
  clear hv hR
  go_enter Tryz.func55, Tryz.ntmps55
  go_wp2
  go_loopw [5] (fun i wr => (∃ k : Nat, k ≤ l.length ∧ i = .int .i64 k ∧ Hid (R = freeC (l.drop k) p)) ∧ wr = w) (fun i _ => l.length - (intOf i).toNat)
  case atStart => exact ⟨⟨0, by omega, rfl, HR.out⟩, rfl⟩
  case round =>
    obtain ⟨⟨k, hk, rfl, HA⟩, rfl⟩ := hrel
    by_cases hlt : k < l.length
    · obtain ⟨g, off, a3, c3, a4, c4, hag, e0, e1, e2, e3, e4, hi0, hz1, hz2, h3, h4⟩ := hs.change hlt
      subst hag
      have HB := Lib.hid (fun h => freeC_bad HA.out hlt h)
      have HN := Lib.hid (fun h1 h2 => freeC_next HA.out hlt h1 h2)
      obtain ⟨c, hc⟩ : ∃ c, c = l[k] := ⟨_, rfl⟩
      rw [← hc] at e0 e1 e2 e3 e4 HB HN
      clear hc h3 h4 hi0 hz1 hz2 HA
      by_cases h1 : c.path = p
      · have d1 : decide (c.path = p) = true := decide_eq_true h1
        have HZ := Lib.hid (HB.out (.inl h1))
        clear h1
        go_wp2
        go_ret
        exact ⟨ret_bool HZ.out.symm, rfl⟩
      · have d1 : decide (c.path = p) = false := decide_eq_false h1
        by_cases h2 : c.dst = p
        · have d2 : decide (c.dst = p) = true := decide_eq_true h2
          have HZ := Lib.hid (HB.out (.inr h2))
          clear h1 h2
          go_wp2
          go_ret
          exact ⟨ret_bool HZ.out.symm, rfl⟩
        · have d2 : decide (c.dst = p) = false := decide_eq_false h2
          have HZ := Lib.hid (HN.out h1 h2)
          clear h1 h2
          go_wp2
          go_roundw
          case rel => exact ⟨⟨k + 1, by omega, by go_num, HZ.out⟩, trivial⟩
          case measure => simp [intOf] <;> omega
    · have HZ := Lib.hid (freeC_end HA.out hlt)
      go_wp2
      go_ret
      exact ⟨ret_bool HZ.out.symm, rfl⟩
theorem str_ne_f {a b : ByteArray} (h : a = b) : (a.toList != b.toList) = false := by rw [h]; simp
set_option maxHeartbeats 8000000 in
set_option maxRecDepth 100000 in
theorem l5One_any {S T : Nat → Prop} (c : Change) {a3 a4 : Option Addr} {c3 c4 : Nat} (w : World) (h3 : IsSlice S w a3 c3 c.text) (h4 : IsSlice T w a4 c4 c.patch) (hz1 : c.path.size ≤ maxLen) (hz2 : c.dst.size ≤ maxLen) {b : Bool} (hb : changeB c = b) :
    Calls Tryz.prog 54 #[.agg #[.int .i64 c.kind, .string c.path, .string c.dst, .slice a3 c.text.length c3, .slice a4 c.patch.length c4]] w fun e w' => e = .returned (.bool b) ∧ Below w.heap.size w w' := by
  have h3 := h3.lt
  have h4 := h4.lt
  obtain ⟨wb, hwb⟩ : ∃ wb, wb = w.alloc (.cells #[.int .i64 c.kind, .string c.path, .string c.dst, .slice a3 c.text.length c3, .slice a4 c.patch.length c4] 49) := ⟨_, rfl⟩
  obtain ⟨hB0, hsb, hq⟩ := boxed (vs := [.int .i64 c.kind, .string c.path, .string c.dst, .slice a3 c.text.length c3, .slice a4 c.patch.length c4]) hwb
  have q0 := hq 0 _ rfl
  have q1 := hq 1 _ rfl
  have q2 := hq 2 _ rfl
  have q3 := hq 3 _ rfl
  have q4 := hq 4 _ rfl
  have HB := Lib.hid hb
  have H12 := Lib.hid (changeB_12 (c := c))
  have H3 := Lib.hid (changeB_3 (c := c))
  have H4 := Lib.hid (changeB_4 (c := c))
  have H0 := Lib.hid (changeB_0 (c := c))
  have hsb2 : w.heap.size < wb.heap.size := by omega
  obtain ⟨cb, hcb⟩ : ∃ cb, cb = changeB c := ⟨_, rfl⟩
  rw [← hcb] at HB H12 H3 H4 H0
  obtain ⟨kd, hkd⟩ : ∃ kd, kd = c.kind := ⟨_, rfl⟩
  obtain ⟨p, hp⟩ : ∃ p, p = c.path := ⟨_, rfl⟩
  obtain ⟨d, hd⟩ : ∃ d, d = c.dst := ⟨_, rfl⟩
  obtain ⟨tx, htx⟩ : ∃ tx, tx = c.text := ⟨_, rfl⟩
  obtain ⟨pt, hpt⟩ : ∃ pt, pt = c.patch := ⟨_, rfl⟩
  rw [← hkd] at hwb H12 H3 H4 H0 ⊢
  rw [← hp] at hwb H12 H3 H4 ⊢
  rw [← hd] at hwb H12 H3 H4 ⊢
  rw [← htx] at hwb H12 H3 H4 ⊢
  rw [← hpt] at hwb H12 H3 H4 ⊢
  rw [← hp] at hz1 q1
  rw [← hd] at hz2 q2
  rw [← hkd] at q0
  rw [← htx] at q3 h3
  rw [← hpt] at q4 h4
  have HW := Lib.hid hwb
  have h3 := h3.keep hB0
  have h4 := h4.keep hB0
  have HBW := hB0
  clear hwb hq hb hcb hkd hp hd htx hpt hsb hB0
  by_cases k1 : kd = 1
  · have HK := Lib.hid (H12.out (.inl k1))
    have j1 := beq_t k1
    clear k1 H12 H3 H4 H0
    go_enter Tryz.func54, Tryz.ntmps54
    go_wp2_with fail
    rw [← HW.out]
    refine (l4Path_is p _ hz1 rfl).mono ?_
    rintro e w1 ⟨rfl, hb1⟩
    have q0 := keepc q0 hb1
    have q1 := keepc q1 hb1
    have q2 := keepc q2 hb1
    have q3 := keepc q3 hb1
    have q4 := keepc q4 hb1
    have h3 := h3.keep (hb1.mono HBW.size)
    have h4 := h4.keep (hb1.mono HBW.size)
    have HBW := HBW.trans (hb1.mono HBW.size)
    clear hb1
    cases hpb : pathB p with
    | false =>
      have HR : Hid (b = false) := by show _ = _; rw [← HB.out, HK.out]; simp [hpb]
      clear HK HB
      go_wp2
      go_ret
      exact ⟨by rw [HR.out]; rfl, HBW⟩
    | true =>
      by_cases hde : d = ⟨#[]⟩
      · have shde := empty_t hde
        go_wp2_with fail
        refine (l1Ok_is _ tx _ h3.rd rfl).mono ?_
        rintro e w2 ⟨rfl, rfl⟩
        cases htb : textB tx with
        | false =>
          have HR : Hid (b = false) := by show _ = _; rw [← HB.out, HK.out]; simp [htb]
          clear HK HB
          go_wp2
          go_ret
          exact ⟨by rw [HR.out]; rfl, HBW⟩
        | true =>
          by_cases hpl : pt.length = 0
          · have shpl := beq_t (show (pt.length : Int) = 0 from by omega)
            have HR : Hid (b = true) := by show _ = _; rw [← HB.out, HK.out]; simp [hpb, hde, htb, hpl]
            clear HK HB
            go_wp2
            go_ret
            exact ⟨by rw [HR.out]; rfl, HBW⟩
          · have shpl := beq_f (show ¬ (pt.length : Int) = 0 from by omega)
            have HR : Hid (b = false) := by show _ = _; rw [← HB.out, HK.out]; simp [hpl]
            clear HK HB
            go_wp2
            go_ret
            exact ⟨by rw [HR.out]; rfl, HBW⟩
      · have shde := empty_f hde
        have HR : Hid (b = false) := by show _ = _; rw [← HB.out, HK.out]; simp [hde]
        clear HK HB
        go_wp2
        go_ret
        exact ⟨by rw [HR.out]; rfl, HBW⟩
  have j1 := beq_f k1
  by_cases k2 : kd = 2
  · have HK := Lib.hid (H12.out (.inr k2))
    have j2 := beq_t k2
    clear k1 k2 H12 H3 H4 H0
    go_enter Tryz.func54, Tryz.ntmps54
    go_wp2_with fail
    rw [← HW.out]
    refine (l4Path_is p _ hz1 rfl).mono ?_
    rintro e w3 ⟨rfl, hb3⟩
    have q0 := keepc q0 hb3
    have q1 := keepc q1 hb3
    have q2 := keepc q2 hb3
    have q3 := keepc q3 hb3
    have q4 := keepc q4 hb3
    have h3 := h3.keep (hb3.mono HBW.size)
    have h4 := h4.keep (hb3.mono HBW.size)
    have HBW := HBW.trans (hb3.mono HBW.size)
    clear hb3
    cases hpb : pathB p with
    | false =>
      have HR : Hid (b = false) := by show _ = _; rw [← HB.out, HK.out]; simp [hpb]
      clear HK HB
      go_wp2
      go_ret
      exact ⟨by rw [HR.out]; rfl, HBW⟩
    | true =>
      by_cases hde : d = ⟨#[]⟩
      · have shde := empty_t hde
        go_wp2_with fail
        refine (l1Ok_is _ tx _ h3.rd rfl).mono ?_
        rintro e w4 ⟨rfl, rfl⟩
        cases htb : textB tx with
        | false =>
          have HR : Hid (b = false) := by show _ = _; rw [← HB.out, HK.out]; simp [htb]
          clear HK HB
          go_wp2
          go_ret
          exact ⟨by rw [HR.out]; rfl, HBW⟩
        | true =>
          by_cases hpl : pt.length = 0
          · have shpl := beq_t (show (pt.length : Int) = 0 from by omega)
            have HR : Hid (b = true) := by show _ = _; rw [← HB.out, HK.out]; simp [hpb, hde, htb, hpl]
            clear HK HB
            go_wp2
            go_ret
            exact ⟨by rw [HR.out]; rfl, HBW⟩
          · have shpl := beq_f (show ¬ (pt.length : Int) = 0 from by omega)
            have HR : Hid (b = false) := by show _ = _; rw [← HB.out, HK.out]; simp [hpl]
            clear HK HB
            go_wp2
            go_ret
            exact ⟨by rw [HR.out]; rfl, HBW⟩
      · have shde := empty_f hde
        have HR : Hid (b = false) := by show _ = _; rw [← HB.out, HK.out]; simp [hde]
        clear HK HB
        go_wp2
        go_ret
        exact ⟨by rw [HR.out]; rfl, HBW⟩
  have j2 := beq_f k2
  by_cases k3 : kd = 3
  · have HK := Lib.hid (H3.out k3)
    have j3 := beq_t k3
    clear k1 k2 k3 H12 H3 H4 H0
    go_enter Tryz.func54, Tryz.ntmps54
    go_wp2_with fail
    rw [← HW.out]
    refine (l4Path_is p _ hz1 rfl).mono ?_
    rintro e w5 ⟨rfl, hb5⟩
    have q0 := keepc q0 hb5
    have q1 := keepc q1 hb5
    have q2 := keepc q2 hb5
    have q3 := keepc q3 hb5
    have q4 := keepc q4 hb5
    have h3 := h3.keep (hb5.mono HBW.size)
    have h4 := h4.keep (hb5.mono HBW.size)
    have HBW := HBW.trans (hb5.mono HBW.size)
    clear hb5
    cases hpb : pathB p with
    | false =>
      have HR : Hid (b = false) := by show _ = _; rw [← HB.out, HK.out]; simp [hpb]
      clear HK HB
      go_wp2
      go_ret
      exact ⟨by rw [HR.out]; rfl, HBW⟩
    | true =>
      by_cases hde : d = ⟨#[]⟩
      · have shde := empty_t hde
        by_cases htl : tx.length = 0
        · have shtl := beq_t (show (tx.length : Int) = 0 from by omega)
          by_cases hpl : 0 < pt.length
          · have shpl := show decide (0 < pt.length) = true from decide_eq_true hpl
            go_wp2_with fail
            refine (l2Ok_is _ pt _ h4.rd rfl).mono ?_
            rintro e w6 ⟨rfl, hb6⟩
            have q0 := keepc q0 hb6
            have q1 := keepc q1 hb6
            have q2 := keepc q2 hb6
            have q3 := keepc q3 hb6
            have q4 := keepc q4 hb6
            have h3 := h3.keep (hb6.mono HBW.size)
            have h4 := h4.keep (hb6.mono HBW.size)
            have HBW := HBW.trans (hb6.mono HBW.size)
            clear hb6
            cases hpb2 : patchB pt with
            | false =>
              have HR : Hid (b = false) := by show _ = _; rw [← HB.out, HK.out]; simp [hpb2]
              clear HK HB
              go_wp2
              go_ret
              exact ⟨by rw [HR.out]; rfl, HBW⟩
            | true =>
              have HR : Hid (b = true) := by show _ = _; rw [← HB.out, HK.out]; simp [hpb, hde, htl, hpl, hpb2]
              clear HK HB
              go_wp2
              go_ret
              exact ⟨by rw [HR.out]; rfl, HBW⟩
          · have shpl := show decide (0 < pt.length) = false from decide_eq_false hpl
            have HR : Hid (b = false) := by show _ = _; rw [← HB.out, HK.out]; simp [hpl]
            clear HK HB
            go_wp2
            go_ret
            exact ⟨by rw [HR.out]; rfl, HBW⟩
        · have shtl := beq_f (show ¬ (tx.length : Int) = 0 from by omega)
          have HR : Hid (b = false) := by show _ = _; rw [← HB.out, HK.out]; simp [htl]
          clear HK HB
          go_wp2
          go_ret
          exact ⟨by rw [HR.out]; rfl, HBW⟩
      · have shde := empty_f hde
        have HR : Hid (b = false) := by show _ = _; rw [← HB.out, HK.out]; simp [hde]
        clear HK HB
        go_wp2
        go_ret
        exact ⟨by rw [HR.out]; rfl, HBW⟩
  have j3 := beq_f k3
  by_cases k4 : kd = 4
  · have HK := Lib.hid (H4.out k4)
    have j4 := beq_t k4
    clear k1 k2 k3 k4 H12 H3 H4 H0
    go_enter Tryz.func54, Tryz.ntmps54
    go_wp2_with fail
    rw [← HW.out]
    refine (l4Path_is p _ hz1 rfl).mono ?_
    rintro e w7 ⟨rfl, hb7⟩
    have q0 := keepc q0 hb7
    have q1 := keepc q1 hb7
    have q2 := keepc q2 hb7
    have q3 := keepc q3 hb7
    have q4 := keepc q4 hb7
    have h3 := h3.keep (hb7.mono HBW.size)
    have h4 := h4.keep (hb7.mono HBW.size)
    have HBW := HBW.trans (hb7.mono HBW.size)
    clear hb7
    cases hpb : pathB p with
    | false =>
      have HR : Hid (b = false) := by show _ = _; rw [← HB.out, HK.out]; simp [hpb]
      clear HK HB
      go_wp2
      go_ret
      exact ⟨by rw [HR.out]; rfl, HBW⟩
    | true =>
      go_wp2_with fail
      refine (l4Path_is d _ hz2 rfl).mono ?_
      rintro e w8 ⟨rfl, hb8⟩
      have q0 := keepc q0 hb8
      have q1 := keepc q1 hb8
      have q2 := keepc q2 hb8
      have q3 := keepc q3 hb8
      have q4 := keepc q4 hb8
      have h3 := h3.keep (hb8.mono HBW.size)
      have h4 := h4.keep (hb8.mono HBW.size)
      have HBW := HBW.trans (hb8.mono HBW.size)
      clear hb8
      cases hdb : pathB d with
      | false =>
        have HR : Hid (b = false) := by show _ = _; rw [← HB.out, HK.out]; simp [hdb]
        clear HK HB
        go_wp2
        go_ret
        exact ⟨by rw [HR.out]; rfl, HBW⟩
      | true =>
        by_cases hdp : d = p
        · have shdp := str_ne_f hdp
          have HR : Hid (b = false) := by show _ = _; rw [← HB.out, HK.out]; simp [hdp]
          clear HK HB
          go_wp2
          go_ret
          exact ⟨by rw [HR.out]; rfl, HBW⟩
        · have shdp := str_ne_t hdp
          by_cases htl : tx.length = 0
          · have shtl := beq_t (show (tx.length : Int) = 0 from by omega)
            by_cases hpl : pt.length = 0
            · have shpl := beq_t (show (pt.length : Int) = 0 from by omega)
              have HR : Hid (b = true) := by show _ = _; rw [← HB.out, HK.out]; simp [hpb, hdb, hdp, htl, hpl]
              clear HK HB
              go_wp2
              go_ret
              exact ⟨by rw [HR.out]; rfl, HBW⟩
            · have shpl := beq_f (show ¬ (pt.length : Int) = 0 from by omega)
              have HR : Hid (b = false) := by show _ = _; rw [← HB.out, HK.out]; simp [hpl]
              clear HK HB
              go_wp2
              go_ret
              exact ⟨by rw [HR.out]; rfl, HBW⟩
          · have shtl := beq_f (show ¬ (tx.length : Int) = 0 from by omega)
            have HR : Hid (b = false) := by show _ = _; rw [← HB.out, HK.out]; simp [htl]
            clear HK HB
            go_wp2
            go_ret
            exact ⟨by rw [HR.out]; rfl, HBW⟩
  have j4 := beq_f k4
  have HR : Hid (b = false) := by show _ = _; rw [← HB.out, H0.out k1 k2 k3 k4]
  clear k1 k2 k3 k4 H12 H3 H4 H0 HB
  go_enter Tryz.func54, Tryz.ntmps54
  go_wp2
  go_ret
  exact ⟨by rw [HR.out]; rfl, by rw [← HW.out]; exact HBW⟩
end Go.Proofs.YthddcfbjgcbioaaGreatDoor
namespace Go.Proofs.YthddcfbjgcbioaaGreatDoor
open Go.RowKit Go.Vc
open Go.Vc.Rep (rd)
open Go.Vc.Own (own)
theorem okAll_bad {l : List Change} {k : Nat} {R : Bool} (H : R = (okAll (l.take k) (l.drop k) && decide (l.length ≤ 16))) (hk : k < l.length) (h : okC (l.take k) l[k] = false) : R = false := by
  rw [H, drop_cons l k hk, okAll, h]; rfl
theorem okAll_next {l : List Change} {k : Nat} {R : Bool} (H : R = (okAll (l.take k) (l.drop k) && decide (l.length ≤ 16))) (hk : k < l.length) (h : okC (l.take k) l[k] = true) : R = (okAll (l.take (k + 1)) (l.drop (k + 1)) && decide (l.length ≤ 16)) := by
  rw [H, drop_cons l k hk, okAll, h, Bool.true_and, List.take_succ_eq_append_getElem hk]
theorem okAll_end {l : List Change} {k : Nat} {R : Bool} (H : R = (okAll (l.take k) (l.drop k) && decide (l.length ≤ 16))) (hk : ¬ k < l.length) : R = decide (l.length ≤ 16) := by
  rw [H, drop_nil l k hk, okAll, Bool.true_and]
theorem okC_is (l : List Change) (c : Change) : okC l c = (changeB c && (freeC l c.path && (decide (c.dst = ⟨#[]⟩) || freeC l c.dst))) := rfl
set_option maxHeartbeats 8000000 in
set_option maxRecDepth 100000 in
theorem l5Ok_is {S : Nat → Prop} (v : Value) (l : List Change) (w : World) (hv : rd S w [v] l) {R : Bool} (hR : changesB l = R) :
    Calls Tryz.prog 28 #[v] w fun e w' => e = .returned (.bool R) ∧ Below w.heap.size w w' := by
  obtain ⟨a, cap, rfl, hs⟩ := rd_slice_elim (Rep.lt hv)
  have hle := hs.le
  have hcap := hs.1
  have HR : Hid (R = (okAll (l.take 0) (l.drop 0) && decide (l.length ≤ 16))) := by show _ = _; rw [← hR, List.take_zero, List.drop_zero, okAll_changes]
  clear hv hR
  go_enter Tryz.func28, Tryz.ntmps28
  go_wp2
  go_loopw [3] (fun i wr => (∃ k : Nat, k ≤ l.length ∧ i = .int .i64 k ∧ Hid (R = (okAll (l.take k) (l.drop k) && decide (l.length ≤ 16)))) ∧ Below w.heap.size w wr) (fun i _ => l.length - (intOf i).toNat)
  case atStart => exact ⟨⟨0, by omega, rfl, HR.out⟩, Below.refl _ _⟩
  case round =>
    obtain ⟨⟨k, hk, rfl, HA⟩, hb⟩ := hrel
    obtain ⟨wx, hwx⟩ : ∃ wx : World, wx = wr := ⟨_, rfl⟩
    subst hwx
    by_cases hlt : k < l.length
    · have hsr := hs.keep hb
      obtain ⟨g, off, a3, c3, a4, c4, hag, e0, e1, e2, e3, e4, hi0, hz1, hz2, h3, h4⟩ := hsr.change hlt
      subst hag
      have HBD := Lib.hid (fun h => okAll_bad HA.out hlt h)
      have HNX := Lib.hid (fun h => okAll_next HA.out hlt h)
      have HOC := Lib.hid (okC_is (l.take k) l[k])
      obtain ⟨c, hc⟩ : ∃ c, c = l[k] := ⟨_, rfl⟩
      rw [← hc] at e0 e1 e2 e3 e4 hi0 hz1 hz2 h3 h4 HBD HNX HOC
      obtain ⟨oc, hoc⟩ : ∃ oc, oc = okC (l.take k) c := ⟨_, rfl⟩
      rw [← hoc] at HBD HNX HOC
      obtain ⟨lt, hlte⟩ : ∃ lt, lt = l.take k := ⟨_, rfl⟩
      have hkl : Hid (k = lt.length) := by show _ = _; rw [hlte]; simp; omega
      have htk : IsSlice (fun b => b < w.heap.size) wx (some ⟨g, off, none⟩) cap lt := by rw [hlte]; exact hsr.take k
      rw [← hlte] at HOC
      have HLT := Lib.hid hlte
      have hct := run_cut0 slz_change.slt (some ⟨g, off, none⟩) l.length cap k (by omega)
      have z0 := BW.cell e0
      have z1 := BW.cell e1
      have z2 := BW.cell e2
      have z3 := BW.cell e3
      have z4 := BW.cell e4
      have HTK : Hid (∀ n : BW wx, rd (fun b => b < w.heap.size) n.w [.slice (some ⟨g, off, none⟩) k cap] lt) := fun n => by have := (htk.bw n).rd; rw [← hkl.out] at this; exact this
      clear hc hoc HA hlte e0 e1 e2 e3 e4 hi0
      obtain ⟨f1, hf1⟩ : ∃ f1, freeC lt c.path = f1 := ⟨_, rfl⟩
      obtain ⟨f2, hf2⟩ : ∃ f2, freeC lt c.dst = f2 := ⟨_, rfl⟩
      obtain ⟨o1, ho1⟩ : ∃ o1, changeB c = o1 := ⟨_, rfl⟩
      have LO := fun (n : BW wx) => l5One_any c n.w (h3.bw n) (h4.bw n) hz1 hz2 ho1
      have LF1 := fun (n : BW wx) => l5Free_any (.slice (some ⟨g, off, none⟩) k cap) lt c.path n.w (HTK.out n) hf1
      have LF2 := fun (n : BW wx) => l5Free_any (.slice (some ⟨g, off, none⟩) k cap) lt c.dst n.w (HTK.out n) hf2
      rw [ho1, hf1, hf2] at HOC
      clear ho1 hf1 hf2 h3 h4 hz1 hz2 htk
      cases o1 with
      | false =>
        have HZ := Lib.hid (HBD.out (by rw [HOC.out]; rfl))
        go_wp2
        refine wp_region_bw (by kernel_rfl) (by kernel_rfl) ?_
        repeat (go_big_quiet_step ((first | (go_at_call 54; with_reducible exact Calls.bw (LO _)) | (go_at_call 55; with_reducible exact Calls.bw_same (LF1 _)) | (go_at_call 55; with_reducible exact Calls.bw_same (LF2 _)))))
        refine wpQuiet_nil ?_
        rintro w1 ⟨⟨_, hbw⟩, rfl⟩
        go_wp2
        go_ret
        exact ⟨ret_bool HZ.out.symm, hb.trans (hbw.mono hb.size)⟩
      | true =>
        cases f1 with
        | false =>
          have HZ := Lib.hid (HBD.out (by rw [HOC.out]; rfl))
          go_wp2
          refine wp_region_bw (by kernel_rfl) (by kernel_rfl) ?_
          repeat (go_big_quiet_step ((first | (go_at_call 54; with_reducible exact Calls.bw (LO _)) | (go_at_call 55; with_reducible exact Calls.bw_same (LF1 _)) | (go_at_call 55; with_reducible exact Calls.bw_same (LF2 _)))))
          refine wpQuiet_nil ?_
          rintro w1 ⟨⟨_, hbw⟩, rfl⟩
          go_wp2
          go_ret
          exact ⟨ret_bool HZ.out.symm, hb.trans (hbw.mono hb.size)⟩
        | true =>
          by_cases hd : c.dst = ⟨#[]⟩
          · have hd0 := empty_t hd
            have HZ := Lib.hid (HNX.out (by rw [HOC.out, decide_eq_true hd]; rfl))
            clear hd
            go_wp2
            refine wp_region_bw (by kernel_rfl) (by kernel_rfl) ?_
            repeat (go_big_quiet_step ((first | (go_at_call 54; with_reducible exact Calls.bw (LO _)) | (go_at_call 55; with_reducible exact Calls.bw_same (LF1 _)) | (go_at_call 55; with_reducible exact Calls.bw_same (LF2 _)))))
            refine wpQuiet_nil ?_
            rintro w1 ⟨⟨_, hbw⟩, rfl⟩
            go_wp2
            go_roundw
            case rel => exact ⟨⟨k + 1, by omega, by go_num, HZ.out⟩, hb.trans (hbw.mono hb.size)⟩
            case measure => simp [intOf] <;> omega
          · have hd0 := empty_f hd
            cases f2 with
            | false =>
              have HZ := Lib.hid (HBD.out (by rw [HOC.out, decide_eq_false hd]; rfl))
              clear hd
              go_wp2
              refine wp_region_bw (by kernel_rfl) (by kernel_rfl) ?_
              repeat (go_big_quiet_step ((first | (go_at_call 54; with_reducible exact Calls.bw (LO _)) | (go_at_call 55; with_reducible exact Calls.bw_same (LF1 _)) | (go_at_call 55; with_reducible exact Calls.bw_same (LF2 _)))))
              refine wpQuiet_nil ?_
              rintro w1 ⟨⟨_, hbw⟩, rfl⟩
              go_wp2
              go_ret
              exact ⟨ret_bool HZ.out.symm, hb.trans (hbw.mono hb.size)⟩
            | true =>
              have HZ := Lib.hid (HNX.out (by rw [HOC.out, decide_eq_false hd]; rfl))
              clear hd
              go_wp2
              refine wp_region_bw (by kernel_rfl) (by kernel_rfl) ?_
              repeat (go_big_quiet_step ((first | (go_at_call 54; with_reducible exact Calls.bw (LO _)) | (go_at_call 55; with_reducible exact Calls.bw_same (LF1 _)) | (go_at_call 55; with_reducible exact Calls.bw_same (LF2 _)))))
              refine wpQuiet_nil ?_
              rintro w1 ⟨⟨_, hbw⟩, rfl⟩
              go_wp2
              go_roundw
              case rel => exact ⟨⟨k + 1, by omega, by go_num, HZ.out⟩, hb.trans (hbw.mono hb.size)⟩
              case measure => simp [intOf] <;> omega
    · have HZ := Lib.hid (okAll_end HA.out hlt)
      by_cases h16 : l.length ≤ 16
      · have hd : decide ((l.length : Int) ≤ 16) = true := decide_eq_true (by omega)
        have HZ2 := Lib.hid (HZ.out.trans (decide_eq_true h16))
        go_wp2
        go_ret
        exact ⟨ret_bool HZ2.out.symm, hb⟩
      · have hd : decide ((l.length : Int) ≤ 16) = false := decide_eq_false (by omega)
        have HZ2 := Lib.hid (HZ.out.trans (decide_eq_false h16))
        go_wp2
        go_ret
        exact ⟨ret_bool HZ2.out.symm, hb⟩
theorem specChangesOk {S : Nat → Prop} (v : Value) (l : List Change) (w : World) (hv : rd S w [v] l) {R : Bool} (hR : changesB l = R) :
    Calls Tryz.prog 10 #[v] w fun e w' => e = .returned (.bool R) ∧ Below w.heap.size w w' := by
  obtain ⟨a, cap, rfl, hs⟩ := rd_slice_elim (Rep.lt hv)
  go_enter Tryz.func10, Tryz.ntmps10
  go_wp2_with fail
  refine (l5Ok_is _ l _ hv hR).mono ?_
  rintro e w1 ⟨rfl, hb⟩
  go_wp2
  go_ret
  exact ⟨rfl, hb⟩
set_option maxHeartbeats 4000000 in
set_option maxRecDepth 100000 in
theorem specChangesPaths {S : Nat → Prop} (v : Value) (l : List Change) (w : World) (hv : rd S w [v] l) :
    Calls Tryz.prog 8 #[v] w fun e w' => ∃ v', e = .returned v' ∧ Fresh w.heap.size w'.heap.size w' [v'] (changesPathsI l) ∧ Below w.heap.size w w' := by
  obtain ⟨a, cap, rfl, hs⟩ := rd_slice_elim (Rep.lt hv)
  have hle := hs.le
  have hvl := Rep.lt hv
  have hE := Fresh.empty (β := ByteArray) Nat.one_pos w.heap.size w (Nat.le_refl _)
  obtain ⟨wE, hwE⟩ : ∃ wE, wE = w.alloc (.cells #[] 9) := ⟨_, rfl⟩
  have hbE : Below w.heap.size w wE := by rw [hwE]; exact (Below.refl _ _).alloc (Nat.le_refl _) _
  have hE2 := hE.now
  have HWE := Lib.hid hwE
  cases hcb : changesB l with
  | false =>
    have HR : Hid (changesPathsI l = []) := by show _ = _; unfold changesPathsI; rw [hcb]; rfl
    clear hwE
    go_enter Tryz.func8, Tryz.ntmps8
    go_wp2_with fail
    rw [← HWE.out]
    refine (l5Ok_is _ l _ (Rep.keep hvl hbE) hcb).mono ?_
    rintro e w1 ⟨rfl, hb1⟩
    go_wp2
    go_ret
    exact ⟨_, rfl, by rw [HR.out]; exact Fresh.nil (β := ByteArray) _ _ _ Nat.one_pos, hbE.trans (hb1.mono hbE.size)⟩
  | true =>
    have HR : Hid (changesPathsI l = foldC [] (l.drop 0)) := by show _ = _; unfold changesPathsI; rw [hcb, if_pos rfl, List.drop_zero, foldC_paths hcb]
    have h16 := ((changesB_iff l).1 hcb).1
    have hF0 : Fresh w.heap.size wE.heap.size wE [.slice (some ⟨w.heap.size, 0, none⟩) 0 0] ([] : List ByteArray) := by rw [hwE]; exact hE2
    obtain ⟨R, hRe⟩ : ∃ R, R = changesPathsI l := ⟨_, rfl⟩
    rw [← hRe] at HR ⊢
    clear hwE hE hE2 hRe
    go_enter Tryz.func8, Tryz.ntmps8
    go_wp2_with fail
    rw [← HWE.out]
    refine (l5Ok_is _ l _ (Rep.keep hvl hbE) hcb).mono ?_
    rintro e w1 ⟨rfl, hb1⟩
    have hb2 := hbE.trans (hb1.mono hbE.size)
    have hF1 := Fresh.below hF0 (Nat.le_refl _) hb1
    clear hcb HWE hF0 hbE hb1
    go_wp2
    go_loopw [3, 4] (fun out i wr => (∃ (k : Nat) (cur : List ByteArray), k ≤ l.length ∧ i = .int .i64 k ∧ cur.length ≤ 2 * k ∧ Fresh w.heap.size wr.heap.size wr [out] cur ∧ Hid (R = foldC cur (l.drop k))) ∧ Below w.heap.size w wr) (fun _ i _ => l.length - (intOf i).toNat)
    case atStart => exact ⟨⟨0, ([] : List ByteArray), by omega, rfl, by simp, hF1.now, HR.out⟩, hb2⟩
    case round =>
      obtain ⟨⟨k, cur, hk, rfl, hcl, hF, HA⟩, hb⟩ := hrel
      have hsz := hb.size
      by_cases hlt : k < l.length
      · obtain ⟨g, off, a3, c3, a4, c4, hag, e0, e1, e2, e3, e4, hi0, hz1, hz2, h3, h4⟩ := (hs.keep hb).change hlt
        subst hag
        have HN := Lib.hid (foldC_next HA.out hlt)
        obtain ⟨c, hc⟩ : ∃ c, c = l[k] := ⟨_, rfl⟩
        rw [← hc] at e1 e2 hz1 hz2 HN
        have hl1 := putP_len cur c.path
        have hl2 := putP_len (putP cur c.path) c.dst
        clear hc h3 h4 e0 e3 e4 hi0 HA
        go_wp2_with fail
        refine (l5Put_any _ cur c.path _ hF hsz (by omega) hz1).mono ?_
        rintro e w3 ⟨v3, rfl, hF3, hb3⟩
        have e2 := keepc e2 hb3
        have hb4 := hb.trans (hb3.mono hsz)
        by_cases hd : c.dst = ⟨#[]⟩
        · have hd0 := empty_t hd
          have HN2 := Lib.hid (show R = foldC (putP cur c.path) (l.drop (k + 1)) from by rw [HN.out, putC2_one hd])
          go_wp2
          go_roundw
          case rel => exact ⟨⟨k + 1, _, by omega, by go_num, by omega, hF3, HN2.out⟩, hb4⟩
          case measure => simp [intOf] <;> omega
        · have hd0 := empty_f hd
          have HN2 := Lib.hid (show R = foldC (putP (putP cur c.path) c.dst) (l.drop (k + 1)) from by rw [HN.out, putC2_two hd])
          go_wp2_with fail
          refine (l5Put_any _ (putP cur c.path) c.dst _ hF3 hb4.size (by omega) hz2).mono ?_
          rintro e w5 ⟨v5, rfl, hF5, hb5⟩
          go_wp2
          go_roundw
          case rel => exact ⟨⟨k + 1, _, by omega, by go_num, by omega, hF5, HN2.out⟩, hb4.trans (hb5.mono hb4.size)⟩
          case measure => simp [intOf] <;> omega
      · have HN := Lib.hid (foldC_end HA.out hlt)
        go_wp2
        go_ret
        exact ⟨_, rfl, by rw [HN.out]; exact hF, hb⟩
end Go.Proofs.YthddcfbjgcbioaaGreatDoor
namespace Go.Vc
open Go.RowKit
open Rep (rd)
/-- what an append at a laid literal leaves alone -/
theorem po_old {α : Type} [Own α] [Tid α] {H : Nat → Prop} {B m : Nat} {wx w5 : World} {v : Value} {xs : List α} {o : Obj} (hG : GrewX H B m (wx.alloc o) w5 v xs) {b : Nat} (hb : b < wx.heap.size) (h : b < B ∨ H b) : w5.heap[b]? = wx.heap[b]? := by
  have e := Below.heap_alloc wx o b hb
  rcases h with h | h
  · exact (hG.below.block b h).trans e
  · exact (hG.holes b (by simp; omega) h).trans e
theorem FreshX.poUp {α : Type} [Own α] {H : Nat → Prop} {B m m' : Nat} {w : World} {vs : List Value} {x : α} (h : FreshX H B m w vs x) (hm : m ≤ m') : FreshX H B m' w vs x := by
  obtain ⟨F, ho, hn, hb, hh⟩ := h
  exact ⟨F, ho, hn, fun b hb' => ⟨(hb b hb').1, by have := hb b hb'; omega⟩, hh⟩
/-- a slice of rows, read -/
theorem FreshX.poRaw {α : Type} [Rep α] [Tid α] {H T : Nat → Prop} {B m : Nat} {w' : World} {v : Value} {rs : List (Raw α)} {xs : List α} (h : FreshX H B m w' [v] rs) (h2 : All2 (fun r x => Rep.rd T w' (Raw.vs r) x) rs xs) : Rep.rd (fun b => B ≤ b ∨ T b) w' [v] xs := by
  obtain ⟨a, cap, rfl, hs⟩ := h.fresh.shape
  have hl := h2.len
  rw [hl]
  exact (hs.unraw h2).rd
theorem po_ten {t : List ByteArray} (h : textB t = true) : t.length ≤ 10 := by simp [textB] at h; exact h.1
end Go.Vc
namespace Go.Vc
open Go.RowKit
theorem alloc_szC (w : World) (o : Obj) : (w.alloc o).heap.size = w.heap.size + 1 := by simp
theorem one_cells5 (n : Int) (s t : ByteArray) (a : Option Addr) (k c : Nat) (b : Option Addr) (m d : Nat) : ∀ u ∈ [Value.int .i64 n, .string s, .string t, .slice a k c, .slice b m d], u.oneCell' = true := by
  intro u hu
  simp only [List.mem_cons, List.not_mem_nil, or_false] at hu
  rcases hu with rfl | rfl | rfl | rfl | rfl <;> rfl
end Go.Vc
namespace Go.Proofs.YthddcfbjgcbioaaGreatDoor
open Go.RowKit Go.Vc
open Go.Vc.Rep (rd)
open Go.Vc.Own (own)
/-- changes of short paths -/
def SmC (l : List Change) : Prop := ∀ c, c ∈ l → ShortS c.path ∧ ShortS c.dst
theorem SmC.set {l : List Change} (h : SmC l) (k : Nat) {c : Change} (hc : ShortS c.path ∧ ShortS c.dst) : SmC (l.set k c) := fun d hd => by
  rcases List.mem_or_eq_of_mem_set hd with hd | rfl
  · exact h d hd
  · exact hc
theorem smC_of {n : Nat} {a b : List File} (ha : Sm n a) (hb : Sm n b) (hn : n ≤ 400) : SmC (changesOf a b) := by
  cases h1 : treeB a with
  | false => unfold changesOf; rw [if_neg (by rw [h1]; simp)]; intro c hc; cases hc
  | true =>
    cases h2 : treeB b with
    | false => unfold changesOf; rw [if_neg (by rw [h2]; simp)]; intro c hc; cases hc
    | true => exact change_short h1 h2 (short_of (by decide)) (fun f hf => short_of (by have := (ha.2 f hf).1; omega)) (fun f hf => short_of (by have := (hb.2 f hf).1; omega))
set_option maxHeartbeats 8000000 in
set_option maxRecDepth 100000 in
theorem l30Changes_any (rb N : Nat) (v : Value) (t : List File) (w : World) (h : RdOk w rb N) (hN : N ≤ 400000) (hv : rd (fun b => rb < b) w [v] t) (hSt : Sm 100 t) :
    Calls Tryz.prog 15 #[.pointer (some ⟨rb, 0, none⟩), v] w fun e w' => ∃ (v : Value) (l : List Change), e = .returned v ∧ SmC l ∧ rd (fun b => rb < b) w' [v] l ∧ Drew rb w w' ∧ RdOk w' rb (N + 200) := by
  have hlt := h.lt
  obtain ⟨a0, c0, hv0, _⟩ := rd_slice_elim hv
  subst hv0
  go_enter Tryz.func15, Tryz.ntmps15
  go_wp2_with fail
  refine (l30TreeTurn_any rb N _ t _ h (by omega) hv hSt).mono ?_
  rintro e w1 ⟨nv, nt, rfl, hSn, hNt, hd1, hr1⟩
  have hv1 := hd1.rdS hv (fun b hb => by omega)
  have hs1 := hd1.size
  obtain ⟨a9, c9, hv9, _⟩ := rd_slice_elim hNt
  subst hv9
  go_wp2_with fail
  refine (specChangesOf _ _ t nt _ hv1 hNt).mono ?_
  rintro e w2 ⟨dv, rfl, hF, hb2⟩
  have hd16 : (changesOf t nt).length ≤ 16 := changes_len
  have hSC : SmC (changesOf t nt) := smC_of (hSt.mono (by omega)) hSn (Nat.le_refl _)
  obtain ⟨d, hde⟩ : ∃ d, d = changesOf t nt := ⟨_, rfl⟩
  rw [← hde] at hF hd16 hSC
  have hr := hr1.below hr1.lt hb2
  have hd := hd1.below hb2
  have hs2 := hd.size
  have hF := hF.mono (B' := w.heap.size) (by omega) (Nat.le_refl _)
  obtain ⟨a, c, hv2, _⟩ := hF.shape
  subst hv2
  clear hr1 hb2 hNt hv1 hv h hd1 hde hs1 hSn hSt
  by_cases h0 : 0 < d.length
  · go_wp2_with fail
    refine (pick_any rb _ _ _ hr (by omega) (by omega)).mono ?_
    rintro e w3 ⟨k, rfl, hk, hd2, hr2⟩
    have hk' : k < d.length := by omega
    go_wp2_with fail
    refine (pick_any rb _ _ _ hr2 (by omega) (by omega)).mono ?_
    rintro e w4 ⟨q, rfl, _, hd3, hr3⟩
    have hF3 := (hd3.fresh (hd2.fresh hF (.inl hlt)).now (.inl hlt)).now
    have hd := (hd.tr hd2).tr hd3
    have hs3 := hd.size
    clear hF hr hr2 hd2 hd3 hk
    obtain ⟨g2, hg0, hg2, hg3⟩ := hF3.addr h0
    subst hg0
    have hkS := hSC _ (List.getElem_mem hk')
    by_cases hq0 : q = 0
    · subst hq0
      go_wp2_with fail
      refine (one_any (S := fun b => b = w4.heap.size) rb _ _ [0, 1, 5] _ (hr3.alloc _) (by omega)
        (lit_ints ([0, 1, 5] : List Int) (heap_alloc_new _ _) (by intro s hs; simp at hs; unfold I64; omega) (by unfold maxLen; simp)).rd (by intro b hb; have := hr3.lt; omega) (by simp) (by simp)).mono ?_
      rintro e w5 ⟨m, rfl, hm, hd4, hr4⟩
      have hmI : I64 m := by simp at hm; unfold I64; omega
      have hd4 := (Drew.of ((Below.refl w4.heap.size w4).alloc (Nat.le_refl _) _)).tr hd4
      have hF4 := (hd4.fresh hF3 (.inl hlt)).now
      have hd5 := hd.tr hd4
      obtain ⟨⟨u', hu⟩, hfz, _, hF7⟩ := hF4.setL lens_change_kind hd5.size hk' (Below.refl _ _) (show Fresh w5.heap.size w5.heap.size w5 [.int .i64 m] m from Fresh.leaf ⟨rfl, rfl, hmI⟩)
      have hu' : w5.cell? ⟨g2, k * 5, none⟩ = some u' := hu
      have hfz' : w5.frozen? ⟨g2, k * 5, none⟩ = false := hfz
      have hF8 := Rep.mono (S' := fun b => rb < b) (fun b hb => Nat.lt_of_lt_of_le hlt hb) hF7.rd
      clear hu hfz hm
      go_wp2
      go_ret
      exact ⟨_, _, rfl, hSC.set k (c := ⟨m, d[k].path, d[k].dst, d[k].text, d[k].patch⟩) hkS, hF8, hd5.belowB ((Below.refl _ _).setCell hg2 _) (Nat.le_refl _), (hr4.below (B := w.heap.size) hlt ((Below.refl _ _).setCell hg2 _)).mono (by omega)⟩
    · have hq0' := nat_eq_f hq0
      by_cases hq1 : q = 1
      · subst hq1
        obtain ⟨H, rs, hrl, hFX, hA2, hH⟩ := hF3.toRaw
        have hraw := hA2.at k (by omega) hk'
        obtain ⟨g9, off9, us9, e1, _, e3, e4⟩ := (rd_slice_of hFX.fresh.rd).2.elem (i := k) (by omega)
        obtain ⟨rfl, rfl⟩ : g2 = g9 ∧ 0 = off9 := by simpa using e1
        obtain ⟨b3, n3, b4, n4, e5, _⟩ := rd_change hraw
        have e4 : us9 = rs[k].vs := e4
        rw [e5] at e4 hraw
        subst e4
        have c0 := e3 0 _ rfl
        have c1 := e3 1 _ rfl
        have c2 := e3 2 _ rfl
        have c3 := e3 3 _ rfl
        have c4 := e3 4 _ rfl
        rw [show Rep.sz (Raw Change) = 5 from rfl, Nat.zero_add] at c0 c1 c2 c3 c4
        have c0 : w4.cell? ⟨g2, k * 5, none⟩ = some (.int .i64 d[k].kind) := c0
        have hrs : rs.length ≤ 16 := by omega
        have hH2 : ∀ (o : Obj) b, H b → b < (w4.alloc o).heap.size := fun o b hb => by have := (hH b hb).2.2; rw [alloc_szC]; omega
        have hsm : SmC (d ++ [d[k]]) := fun f hf => by
          rcases List.mem_append.1 hf with hf | hf
          · exact hSC f hf
          · rw [List.mem_singleton.1 hf]; exact hkS
        obtain ⟨f, hf⟩ : ∃ f, f = d[k] := ⟨_, rfl⟩
        rw [← hf] at c0 c1 c2 c3 c4 hraw hsm
        have HF := Lib.hid hf
        have HSM := Lib.hid hsm
        clear e3 e5 e1 hf hkS hSC hsm
        go_wp2_with (at_builtin; (refine wpList_app_leafX slz_change.slt.raw rfl (.tmp 32) (.tmp 37) rfl rfl (hFX.alloc _) (hH2 _) (by rw [alloc_szC]; omega) rfl rfl (lit_raw (heap_alloc_new _ _) rfl (one_cells5 _ _ _ _ _ _ _ _ _) (by decide)) (by rw [List.length_singleton]; omega) (by rw [List.length_singleton]; unfold maxLen; omega) ?_); intro a7 c7 w7 hG7)
        have hb7 : Below w.heap.size w4 w7 := ((Below.refl w.heap.size w4).alloc hs3 _).trans hG7.below
        have hA7 : All2 (fun (r : Raw Change) x => Rep.rd (fun b => w.heap.size ≤ b) w7 (Raw.vs r) x) rs d := hA2.mono fun r x h => Rep.frame (fun b hb hl => ⟨po_old hG7 hl (.inr hb), (hH b hb).1⟩) h
        have hN7 : Rep.rd (fun b => w.heap.size ≤ b) w7 [.int .i64 f.kind, .string f.path, .string f.dst, .slice b3 f.text.length n3, .slice b4 f.patch.length n4] f := Rep.mono (fun b hb => hb.1) (Rep.frame (S := H) (S' := fun b => w.heap.size ≤ b ∧ True) (fun b hb hl => ⟨po_old hG7 hl (.inr hb), (hH b hb).1, trivial⟩) hraw)
        have hAll := All2.snoc (a := (⟨[.int .i64 f.kind, .string f.path, .string f.dst, .slice b3 f.text.length n3, .slice b4 f.patch.length n4], rfl, one_cells5 _ _ _ _ _ _ _ _ _⟩ : Raw Change)) (b := f) hA7 hN7
        have hfin : Rep.rd (fun b => w.heap.size ≤ b) w7 [.slice a7 (rs.length + 1) c7] (d ++ [f]) := Rep.mono (fun b hb => by rcases hb with hb | hb; exact hb; exact hb) (hG7.fresh.poRaw hAll)
        rw [hrl] at hfin
        have hfin := Rep.mono (S' := fun b => rb < b) (fun b hb => Nat.lt_of_lt_of_le hlt hb) hfin
        go_ret
        exact ⟨_, _, rfl, HSM.out, hfin, hd.belowB hb7 (Nat.le_refl _), (hr3.below (B := w.heap.size) hlt hb7).mono (by omega)⟩
      · have hq1' := nat_eq_f hq1
        by_cases hq2 : q = 2
        · subst hq2
          go_wp2_with fail
          refine (l30AnyPath_any rb _ _ hr3 (by omega)).mono ?_
          rintro e w5 ⟨s, rfl, hs, hd4, hr4⟩
          have hF4 := (hd4.fresh hF3 (.inl hlt)).now
          have hd5 := hd.tr hd4
          obtain ⟨⟨u', hu⟩, hfz, _, hF7⟩ := hF4.setL lens_change_dst hd5.size hk' (Below.refl _ _) (show Fresh w5.heap.size w5.heap.size w5 [.string s] s from Fresh.leaf ⟨rfl, rfl, by unfold maxLen; omega⟩)
          have hu' : w5.cell? ⟨g2, k * 5 + 2, none⟩ = some u' := hu
          have hfz' : w5.frozen? ⟨g2, k * 5 + 2, none⟩ = false := hfz
          have hF8 := Rep.mono (S' := fun b => rb < b) (fun b hb => Nat.lt_of_lt_of_le hlt hb) hF7.rd
          clear hu hfz
          go_wp2
          go_ret
          exact ⟨_, _, rfl, hSC.set k (c := ⟨d[k].kind, d[k].path, s, d[k].text, d[k].patch⟩) ⟨hkS.1, short_of (s := s) (by omega)⟩, hF8, hd5.belowB ((Below.refl _ _).setCell hg2 _) (Nat.le_refl _), (hr4.below (B := w.heap.size) hlt ((Below.refl _ _).setCell hg2 _)).mono (by omega)⟩
        · have hq2' := nat_eq_f hq2
          have hF8 := Rep.mono (S' := fun b => rb < b) (fun b hb => Nat.lt_of_lt_of_le hlt hb) hF3.rd
          go_wp2
          go_ret
          exact ⟨_, d, rfl, hSC, hF8, hd, hr3.mono (by omega)⟩
  · have hF8 := Rep.mono (S' := fun b => rb < b) (fun b hb => Nat.lt_of_lt_of_le hlt hb) hF.rd
    go_wp2
    go_ret
    exact ⟨_, d, rfl, hSC, hF8, hd, hr.mono (by omega)⟩
/-- a tree and changes drawn -/
def TreeCh (w : World) (e : Ending) (w' : World) : Prop :=
  ∃ (v u : Value) (t : List File) (l : List Change), e = .returned (.tuple #[v, u]) ∧ Sm 400 t ∧ SmC l ∧ rd (fun b => w.heap.size ≤ b) w' [v] t ∧ rd (fun b => w.heap.size ≤ b) w' [u] l ∧ Below w.heap.size w w'
set_option maxHeartbeats 2000000 in
theorem drawChangesDo_any {S : Nat → Prop} (v : Value) (bs : List UInt8) (w : World) (hv : rd S w [v] bs) (hl : bs.length ≤ 1048576) :
    Calls Tryz.prog 4 #[v] w (TreeCh w) := by
  go_enter Tryz.func4, Tryz.ntmps4
  go_wp2_with fail
  refine (l30Open_any v bs w hv hl).mono ?_
  rintro e w1 ⟨rfl, hr, hb, hsz⟩
  go_wp2_with fail
  refine (l30AnyTree_any _ _ _ hr (by omega)).mono ?_
  rintro e w2 ⟨u, t, rfl, hS, ht, hd, hr⟩
  obtain ⟨a2, c2, hu2, _⟩ := rd_slice_elim ht
  subst hu2
  have hs2 := hd.size
  have hSm : Sm 100 t := hS
  have ht9 := Rep.mono (S' := fun b => w.heap.size < b) (fun b hb => by omega) ht
  clear ht
  go_wp2_with fail
  refine (l30Changes_any _ _ _ t _ hr (by omega) ht9 hSm).mono ?_
  rintro e w3 ⟨u3, l, rfl, hSl, hL, hd3, hr3⟩
  obtain ⟨a3, c3, hu3, _⟩ := rd_slice_elim hL
  subst hu3
  have ht := hd3.rdS ht9 (fun b hb => by omega)
  have hd4 := hd.tr hd3
  have hs3 := hd3.size
  clear ht9
  go_wp2_with fail
  refine (pick_any _ _ _ _ hr3 (by omega) (by omega)).mono ?_
  rintro e w4 ⟨q, rfl, _, hd5, hr4⟩
  have ht := hd5.rdS ht (fun b hb => by omega)
  have hL := hd5.rdS hL (fun b hb => by omega)
  have hd6 := hd4.tr hd5
  have hs4 := hd6.size
  by_cases h0 : q = 0
  · subst h0
    go_wp2_with fail
    refine (l30TreeTurn_any _ _ _ t _ hr4 (by omega) ht hSm).mono ?_
    rintro e w5 ⟨u5, t5, rfl, hS5, ht5, hd7, hr5⟩
    obtain ⟨a5, c5, hu5, _⟩ := rd_slice_elim ht5
    subst hu5
    have hL := hd7.rdS hL (fun b hb => by omega)
    have hd8 := hd6.tr hd7
    have hs5 := hd8.size
    have hl9 := hS5.1
    go_wp2_with fail
    refine (l4Copy_wide _ t5 _ ht5 (by omega) (fun f hf => by have := (hS5.2 f hf).2; omega)).mono ?_
    rintro e w6 ⟨u6, rfl, hC, hb6⟩
    have hL := Rep.below hL (Nat.le_refl _) hb6
    obtain ⟨a6, c6, hu6, _⟩ := hC.shape
    subst hu6
    have hBB := hb.trans (hd8.low (Nat.le_refl _) (by omega))
    have hsB := hBB.size
    go_wp2
    go_ret2
    exact ⟨_, _, t5, l, rfl, hS5, hSl, Rep.mono (fun b hb => by omega) hC.rd, Rep.mono (fun b hb => by omega) hL, hBB.trans (hb6.mono hsB)⟩
  · have h0' := nat_eq_f h0
    go_wp2
    go_ret2
    exact ⟨_, _, t, l, rfl, hSm.mono (by omega), hSl, Rep.mono (fun b hb => by omega) ht, Rep.mono (fun b hb => by omega) hL, hb.trans (hd6.low (Nat.le_refl _) (by omega))⟩
end Go.Proofs.YthddcfbjgcbioaaGreatDoor
