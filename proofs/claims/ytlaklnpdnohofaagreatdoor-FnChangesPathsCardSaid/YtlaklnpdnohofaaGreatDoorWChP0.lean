/-
  Walks: changes that are ok, and their paths, as the reference has it.
-/
import Derived.Test.YtlaklnpdnohofaaGreatDoorVD1
import Derived.Test.YtlaklnpdnohofaaGreatDoorVCK
import Derived.Test.YtlaklnpdnohofaaGreatDoorVJJ
import Derived.Test.YtlaklnpdnohofaaGreatDoorVL
import Derived.Test.YtlaklnpdnohofaaGreatDoorVD
import Derived.Test.YtlaklnpdnohofaaGreatDoorVCH
set_option linter.unusedVariables false
namespace Go.Vc
theorem freeC_bad {l : List Change} {k : Nat} {p : ByteArray} {R : Bool} (H : R = freeC (l.drop k) p) (hk : k < l.length) (h : l[k].path = p ∨ l[k].dst = p) : R = false := by
  rw [H, drop_cons l k hk, freeC, List.all_cons]
  rcases h with h | h
  · rw [decide_eq_true h]; simp
  · rw [decide_eq_true h]; simp
theorem freeC_next {l : List Change} {k : Nat} {p : ByteArray} {R : Bool} (H : R = freeC (l.drop k) p) (hk : k < l.length) (h1 : ¬ l[k].path = p) (h2 : ¬ l[k].dst = p) : R = freeC (l.drop (k + 1)) p := by
  rw [H, drop_cons l k hk, freeC, List.all_cons, decide_eq_false h1, decide_eq_false h2]
  rfl
theorem freeC_end {l : List Change} {k : Nat} {p : ByteArray} {R : Bool} (H : R = freeC (l.drop k) p) (hk : ¬ k < l.length) : R = true := by rw [H, drop_nil l k hk]; rfl
end Go.Vc
namespace Go.Proofs.YtlaklnpdnohofaaGreatDoor
open Go.RowKit Go.Vc
open Go.Vc.Rep (rd)
open Go.Vc.Own (own)
set_option maxHeartbeats 4000000 in
set_option maxRecDepth 100000 in
theorem l5Free_any {S : Nat → Prop} (v : Value) (l : List Change) (p : ByteArray) (w : World) (hv : rd S w [v] l) {R : Bool} (hR : freeC l p = R) :
    Calls Tryz.prog 91 #[v, .string p] w fun e w' => e = .returned (.bool R) ∧ w = w' := by
  obtain ⟨a, cap, rfl, hs⟩ := rd_slice_elim (Rep.lt hv)
  have hle := hs.le
  have HR : Hid (R = freeC (l.drop 0) p) := hR.symm
  clear hv hR
  go_enter Tryz.func91, Tryz.ntmps91
  go_wp2
  go_loopw [5] (fun i wr => (∃ k : Nat, k ≤ l.length ∧ i = .int .i64 k ∧ Hid (R = freeC (l.drop k) p)) ∧ wr = w) (fun i _ => l.length - (intOf i).toNat)
  case atStart => exact ⟨⟨0, by omega, rfl, HR.out⟩, rfl⟩
  case round =>
    obtain ⟨⟨k, hk, rfl, HA⟩, rfl⟩ := hrel
    by_cases hlt : k < l.length
    · obtain ⟨g, off, a3, c3, a4, c4, hag, e0, e1, e2, e3, e4, hi0, hz1, hz2, h3, h4⟩ := hs.change hlt
      subst hag
      have HB := Lib.hid (fun h => freeC_bad HA.out hlt h)
      have HN := Lib.hid (fun h1 h2 => freeC_next HA.out hlt h1 h2)
      obtain ⟨c, hc⟩ : ∃ c, c = l[k] := ⟨_, rfl⟩
      rw [← hc] at e0 e1 e2 e3 e4 HB HN
      clear hc h3 h4 hi0 hz1 hz2 HA
      by_cases h1 : c.path = p
      · have d1 : decide (c.path = p) = true := decide_eq_true h1
        have HZ := Lib.hid (HB.out (.inl h1))
        clear h1
        go_wp2
        go_ret
        exact ⟨ret_bool HZ.out.symm, rfl⟩
      · have d1 : decide (c.path = p) = false := decide_eq_false h1
        by_cases h2 : c.dst = p
        · have d2 : decide (c.dst = p) = true := decide_eq_true h2
          have HZ := Lib.hid (HB.out (.inr h2))
          clear h1 h2
          go_wp2
          go_ret
          exact ⟨ret_bool HZ.out.symm, rfl⟩
        · have d2 : decide (c.dst = p) = false := decide_eq_false h2
          have HZ := Lib.hid (HN.out h1 h2)
          clear h1 h2
          go_wp2
          go_roundw
          case rel => exact ⟨⟨k + 1, by omega, by go_num, HZ.out⟩, trivial⟩
          case measure => simp [intOf] <;> omega
    · have HZ := Lib.hid (freeC_end HA.out hlt)
      go_wp2
      go_ret
      exact ⟨ret_bool HZ.out.symm, rfl⟩
theorem str_ne_f {a b : ByteArray} (h : a = b) : (a.toList != b.toList) = false := by rw [h]; simp
set_option maxHeartbeats 8000000 in
set_option maxRecDepth 100000 in
theorem l5One_any {S T : Nat → Prop} (c : Change) {a3 a4 : Option Addr} {c3 c4 : Nat} (w : World) (h3 : IsSlice S w a3 c3 c.text) (h4 : IsSlice T w a4 c4 c.patch) (hz1 : c.path.size ≤ maxLen) (hz2 : c.dst.size ≤ maxLen) {b : Bool} (hb : changeB c = b) :
    Calls Tryz.prog 90 #[.agg #[.int .i64 c.kind, .string c.path, .string c.dst, .slice a3 c.text.length c3, .slice a4 c.patch.length c4]] w fun e w' => e = .returned (.bool b) ∧ Below w.heap.size w w' := by
  have h3 := h3.lt
  have h4 := h4.lt
  obtain ⟨wb, hwb⟩ : ∃ wb, wb = w.alloc (.cells #[.int .i64 c.kind, .string c.path, .string c.dst, .slice a3 c.text.length c3, .slice a4 c.patch.length c4] 69) := ⟨_, rfl⟩
  obtain ⟨hB0, hsb, hq⟩ := boxed (vs := [.int .i64 c.kind, .string c.path, .string c.dst, .slice a3 c.text.length c3, .slice a4 c.patch.length c4]) hwb
  have q0 := hq 0 _ rfl
  have q1 := hq 1 _ rfl
  have q2 := hq 2 _ rfl
  have q3 := hq 3 _ rfl
  have q4 := hq 4 _ rfl
  have HB := Lib.hid hb
  have H12 := Lib.hid (changeB_12 (c := c))
  have H3 := Lib.hid (changeB_3 (c := c))
  have H4 := Lib.hid (changeB_4 (c := c))
  have H0 := Lib.hid (changeB_0 (c := c))
  have hsb2 : w.heap.size < wb.heap.size := by omega
  obtain ⟨cb, hcb⟩ : ∃ cb, cb = changeB c := ⟨_, rfl⟩
  rw [← hcb] at HB H12 H3 H4 H0
  obtain ⟨kd, hkd⟩ : ∃ kd, kd = c.kind := ⟨_, rfl⟩
  obtain ⟨p, hp⟩ : ∃ p, p = c.path := ⟨_, rfl⟩
  obtain ⟨d, hd⟩ : ∃ d, d = c.dst := ⟨_, rfl⟩
  obtain ⟨tx, htx⟩ : ∃ tx, tx = c.text := ⟨_, rfl⟩
  obtain ⟨pt, hpt⟩ : ∃ pt, pt = c.patch := ⟨_, rfl⟩
  rw [← hkd] at hwb H12 H3 H4 H0 ⊢
  rw [← hp] at hwb H12 H3 H4 ⊢
  rw [← hd] at hwb H12 H3 H4 ⊢
  rw [← htx] at hwb H12 H3 H4 ⊢
  rw [← hpt] at hwb H12 H3 H4 ⊢
  rw [← hp] at hz1 q1
  rw [← hd] at hz2 q2
  rw [← hkd] at q0
  rw [← htx] at q3 h3
  rw [← hpt] at q4 h4
  have HW := Lib.hid hwb
  have h3 := h3.keep hB0
  have h4 := h4.keep hB0
  have HBW := hB0
  clear hwb hq hb hcb hkd hp hd htx hpt hsb hB0
  by_cases k1 : kd = 1
  · have HK := Lib.hid (H12.out (.inl k1))
    have j1 := beq_t k1
    clear k1 H12 H3 H4 H0
    go_enter Tryz.func90, Tryz.ntmps90
    go_wp2_with fail
    rw [← HW.out]
    refine (l4Path_is p _ hz1 rfl).mono ?_
    rintro e w1 ⟨rfl, hb1⟩
    have q0 := keepc q0 hb1
    have q1 := keepc q1 hb1
    have q2 := keepc q2 hb1
    have q3 := keepc q3 hb1
    have q4 := keepc q4 hb1
    have h3 := h3.keep (hb1.mono HBW.size)
    have h4 := h4.keep (hb1.mono HBW.size)
    have HBW := HBW.trans (hb1.mono HBW.size)
    clear hb1
    cases hpb : pathB p with
    | false =>
      have HR : Hid (b = false) := by show _ = _; rw [← HB.out, HK.out]; simp [hpb]
      clear HK HB
      go_wp2
      go_ret
      exact ⟨by rw [HR.out]; rfl, HBW⟩
    | true =>
      by_cases hde : d = ⟨#[]⟩
      · have shde := empty_t hde
        go_wp2_with fail
        refine (l1Ok_is _ tx _ h3.rd rfl).mono ?_
        rintro e w2 ⟨rfl, rfl⟩
        cases htb : textB tx with
        | false =>
          have HR : Hid (b = false) := by show _ = _; rw [← HB.out, HK.out]; simp [htb]
          clear HK HB
          go_wp2
          go_ret
          exact ⟨by rw [HR.out]; rfl, HBW⟩
        | true =>
          by_cases hpl : pt.length = 0
          · have shpl := beq_t (show (pt.length : Int) = 0 from by omega)
            have HR : Hid (b = true) := by show _ = _; rw [← HB.out, HK.out]; simp [hpb, hde, htb, hpl]
            clear HK HB
            go_wp2
            go_ret
            exact ⟨by rw [HR.out]; rfl, HBW⟩
          · have shpl := beq_f (show ¬ (pt.length : Int) = 0 from by omega)
            have HR : Hid (b = false) := by show _ = _; rw [← HB.out, HK.out]; simp [hpl]
            clear HK HB
            go_wp2
            go_ret
            exact ⟨by rw [HR.out]; rfl, HBW⟩
      · have shde := empty_f hde
        have HR : Hid (b = false) := by show _ = _; rw [← HB.out, HK.out]; simp [hde]
        clear HK HB
        go_wp2
        go_ret
        exact ⟨by rw [HR.out]; rfl, HBW⟩
  have j1 := beq_f k1
  by_cases k2 : kd = 2
  · have HK := Lib.hid (H12.out (.inr k2))
    have j2 := beq_t k2
    clear k1 k2 H12 H3 H4 H0
    go_enter Tryz.func90, Tryz.ntmps90
    go_wp2_with fail
    rw [← HW.out]
    refine (l4Path_is p _ hz1 rfl).mono ?_
    rintro e w3 ⟨rfl, hb3⟩
    have q0 := keepc q0 hb3
    have q1 := keepc q1 hb3
    have q2 := keepc q2 hb3
    have q3 := keepc q3 hb3
    have q4 := keepc q4 hb3
    have h3 := h3.keep (hb3.mono HBW.size)
    have h4 := h4.keep (hb3.mono HBW.size)
    have HBW := HBW.trans (hb3.mono HBW.size)
    clear hb3
    cases hpb : pathB p with
    | false =>
      have HR : Hid (b = false) := by show _ = _; rw [← HB.out, HK.out]; simp [hpb]
      clear HK HB
      go_wp2
      go_ret
      exact ⟨by rw [HR.out]; rfl, HBW⟩
    | true =>
      by_cases hde : d = ⟨#[]⟩
      · have shde := empty_t hde
        go_wp2_with fail
        refine (l1Ok_is _ tx _ h3.rd rfl).mono ?_
        rintro e w4 ⟨rfl, rfl⟩
        cases htb : textB tx with
        | false =>
          have HR : Hid (b = false) := by show _ = _; rw [← HB.out, HK.out]; simp [htb]
          clear HK HB
          go_wp2
          go_ret
          exact ⟨by rw [HR.out]; rfl, HBW⟩
        | true =>
          by_cases hpl : pt.length = 0
          · have shpl := beq_t (show (pt.length : Int) = 0 from by omega)
            have HR : Hid (b = true) := by show _ = _; rw [← HB.out, HK.out]; simp [hpb, hde, htb, hpl]
            clear HK HB
            go_wp2
            go_ret
            exact ⟨by rw [HR.out]; rfl, HBW⟩
          · have shpl := beq_f (show ¬ (pt.length : Int) = 0 from by omega)
            have HR : Hid (b = false) := by show _ = _; rw [← HB.out, HK.out]; simp [hpl]
            clear HK HB
            go_wp2
            go_ret
            exact ⟨by rw [HR.out]; rfl, HBW⟩
      · have shde := empty_f hde
        have HR : Hid (b = false) := by show _ = _; rw [← HB.out, HK.out]; simp [hde]
        clear HK HB
        go_wp2
        go_ret
        exact ⟨by rw [HR.out]; rfl, HBW⟩
  have j2 := beq_f k2
  by_cases k3 : kd = 3
  · have HK := Lib.hid (H3.out k3)
    have j3 := beq_t k3
    clear k1 k2 k3 H12 H3 H4 H0
    go_enter Tryz.func90, Tryz.ntmps90
    go_wp2_with fail
    rw [← HW.out]
    refine (l4Path_is p _ hz1 rfl).mono ?_
    rintro e w5 ⟨rfl, hb5⟩
    have q0 := keepc q0 hb5
    have q1 := keepc q1 hb5
    have q2 := keepc q2 hb5
    have q3 := keepc q3 hb5
    have q4 := keepc q4 hb5
    have h3 := h3.keep (hb5.mono HBW.size)
    have h4 := h4.keep (hb5.mono HBW.size)
    have HBW := HBW.trans (hb5.mono HBW.size)
    clear hb5
    cases hpb : pathB p with
    | false =>
      have HR : Hid (b = false) := by show _ = _; rw [← HB.out, HK.out]; simp [hpb]
      clear HK HB
      go_wp2
      go_ret
      exact ⟨by rw [HR.out]; rfl, HBW⟩
    | true =>
      by_cases hde : d = ⟨#[]⟩
      · have shde := empty_t hde
        by_cases htl : tx.length = 0
        · have shtl := beq_t (show (tx.length : Int) = 0 from by omega)
          by_cases hpl : 0 < pt.length
          · have shpl := show decide (0 < pt.length) = true from decide_eq_true hpl
            go_wp2_with fail
            refine (l2Ok_is _ pt _ h4.rd rfl).mono ?_
            rintro e w6 ⟨rfl, hb6⟩
            have q0 := keepc q0 hb6
            have q1 := keepc q1 hb6
            have q2 := keepc q2 hb6
            have q3 := keepc q3 hb6
            have q4 := keepc q4 hb6
            have h3 := h3.keep (hb6.mono HBW.size)
            have h4 := h4.keep (hb6.mono HBW.size)
            have HBW := HBW.trans (hb6.mono HBW.size)
            clear hb6
            cases hpb2 : patchB pt with
            | false =>
              have HR : Hid (b = false) := by show _ = _; rw [← HB.out, HK.out]; simp [hpb2]
              clear HK HB
              go_wp2
              go_ret
              exact ⟨by rw [HR.out]; rfl, HBW⟩
            | true =>
              have HR : Hid (b = true) := by show _ = _; rw [← HB.out, HK.out]; simp [hpb, hde, htl, hpl, hpb2]
              clear HK HB
              go_wp2
              go_ret
              exact ⟨by rw [HR.out]; rfl, HBW⟩
          · have shpl := show decide (0 < pt.length) = false from decide_eq_false hpl
            have HR : Hid (b = false) := by show _ = _; rw [← HB.out, HK.out]; simp [hpl]
            clear HK HB
            go_wp2
            go_ret
            exact ⟨by rw [HR.out]; rfl, HBW⟩
        · have shtl := beq_f (show ¬ (tx.length : Int) = 0 from by omega)
          have HR : Hid (b = false) := by show _ = _; rw [← HB.out, HK.out]; simp [htl]
          clear HK HB
          go_wp2
          go_ret
          exact ⟨by rw [HR.out]; rfl, HBW⟩
      · have shde := empty_f hde
        have HR : Hid (b = false) := by show _ = _; rw [← HB.out, HK.out]; simp [hde]
        clear HK HB
        go_wp2
        go_ret
        exact ⟨by rw [HR.out]; rfl, HBW⟩
  have j3 := beq_f k3
  by_cases k4 : kd = 4
  · have HK := Lib.hid (H4.out k4)
    have j4 := beq_t k4
    clear k1 k2 k3 k4 H12 H3 H4 H0
    go_enter Tryz.func90, Tryz.ntmps90
    go_wp2_with fail
    rw [← HW.out]
    refine (l4Path_is p _ hz1 rfl).mono ?_
    rintro e w7 ⟨rfl, hb7⟩
    have q0 := keepc q0 hb7
    have q1 := keepc q1 hb7
    have q2 := keepc q2 hb7
    have q3 := keepc q3 hb7
    have q4 := keepc q4 hb7
    have h3 := h3.keep (hb7.mono HBW.size)
    have h4 := h4.keep (hb7.mono HBW.size)
    have HBW := HBW.trans (hb7.mono HBW.size)
    clear hb7
    cases hpb : pathB p with
    | false =>
      have HR : Hid (b = false) := by show _ = _; rw [← HB.out, HK.out]; simp [hpb]
      clear HK HB
      go_wp2
      go_ret
      exact ⟨by rw [HR.out]; rfl, HBW⟩
    | true =>
      go_wp2_with fail
      refine (l4Path_is d _ hz2 rfl).mono ?_
      rintro e w8 ⟨rfl, hb8⟩
      have q0 := keepc q0 hb8
      have q1 := keepc q1 hb8
      have q2 := keepc q2 hb8
      have q3 := keepc q3 hb8
      have q4 := keepc q4 hb8
      have h3 := h3.keep (hb8.mono HBW.size)
      have h4 := h4.keep (hb8.mono HBW.size)
      have HBW := HBW.trans (hb8.mono HBW.size)
      clear hb8
      cases hdb : pathB d with
      | false =>
        have HR : Hid (b = false) := by show _ = _; rw [← HB.out, HK.out]; simp [hdb]
        clear HK HB
        go_wp2
        go_ret
        exact ⟨by rw [HR.out]; rfl, HBW⟩
      | true =>
        by_cases hdp : d = p
        · have shdp := str_ne_f hdp
          have HR : Hid (b = false) := by show _ = _; rw [← HB.out, HK.out]; simp [hdp]
          clear HK HB
          go_wp2
          go_ret
          exact ⟨by rw [HR.out]; rfl, HBW⟩
        · have shdp := str_ne_t hdp
          by_cases htl : tx.length = 0
          · have shtl := beq_t (show (tx.length : Int) = 0 from by omega)
            by_cases hpl : pt.length = 0
            · have shpl := beq_t (show (pt.length : Int) = 0 from by omega)
              have HR : Hid (b = true) := by show _ = _; rw [← HB.out, HK.out]; simp [hpb, hdb, hdp, htl, hpl]
              clear HK HB
              go_wp2
              go_ret
              exact ⟨by rw [HR.out]; rfl, HBW⟩
            · have shpl := beq_f (show ¬ (pt.length : Int) = 0 from by omega)
              have HR : Hid (b = false) := by show _ = _; rw [← HB.out, HK.out]; simp [hpl]
              clear HK HB
              go_wp2
              go_ret
              exact ⟨by rw [HR.out]; rfl, HBW⟩
          · have shtl := beq_f (show ¬ (tx.length : Int) = 0 from by omega)
            have HR : Hid (b = false) := by show _ = _; rw [← HB.out, HK.out]; simp [htl]
            clear HK HB
            go_wp2
            go_ret
            exact ⟨by rw [HR.out]; rfl, HBW⟩
  have j4 := beq_f k4
  have HR : Hid (b = false) := by show _ = _; rw [← HB.out, H0.out k1 k2 k3 k4]
  clear k1 k2 k3 k4 H12 H3 H4 H0 HB
  go_enter Tryz.func90, Tryz.ntmps90
  go_wp2
  go_ret
  exact ⟨by rw [HR.out]; rfl, by rw [← HW.out]; exact HBW⟩
end Go.Proofs.YtlaklnpdnohofaaGreatDoor
