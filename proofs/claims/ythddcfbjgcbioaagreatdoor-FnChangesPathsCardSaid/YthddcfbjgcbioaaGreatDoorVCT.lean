/-
  Walks: whether there is a tree, as the reference has it. / Walks: a file put into a tree, as the reference does it.
-/
import Derived.Test.YthddcfbjgcbioaaGreatDoorVL
import Derived.Test.YthddcfbjgcbioaaGreatDoorVI
import Derived.Test.YthddcfbjgcbioaaGreatDoorVH
import Derived.Test.YthddcfbjgcbioaaGreatDoorWCTree
import Derived.Test.YthddcfbjgcbioaaGreatDoorVR
import Derived.Test.YthddcfbjgcbioaaGreatDoorVPB
set_option linter.unusedVariables false
namespace Go.Proofs.YthddcfbjgcbioaaGreatDoor
open Go.RowKit Go.Vc
open Go.Vc.Rep (rd)
open Go.Vc.Own (own)

set_option maxHeartbeats 8000000 in
set_option maxRecDepth 100000 in
theorem l4Ok_any {S : Nat → Prop} (v : Value) (xs : List File) (w : World) (hv : rd S w [v] xs) :
    Calls Tryz.prog 45 #[v] w fun e w' => e = .returned (.bool (treeB xs)) ∧ Below w.heap.size w w' := by
  obtain ⟨a, cap, rfl, hs⟩ := rd_slice_elim (Rep.lt hv)
  have hle := hs.le
  have HP : Hid (treeB xs = (decide (xs.length ≤ 8) && oversB xs)) := by show _ = _; rw [overs_trees]; rfl
  go_enter Tryz.func45, Tryz.ntmps45
  go_wp2
  go_loopw [3] (fun i wr => (∃ k : Nat, k ≤ xs.length ∧ i = .int .i64 k ∧ Hid (∀ j, j < k → fileAt xs j = true ∧ overAt xs j = true)) ∧ Below w.heap.size w wr) (fun i _ => xs.length - (intOf i).toNat)
  case atStart => exact ⟨⟨0, by omega, rfl, by show ∀ _, _; intro j hj; omega⟩, Below.refl _ _⟩
  case round =>
    obtain ⟨⟨k, hk, rfl, HA⟩, hbB⟩ := hrel
    by_cases hlt : k < xs.length
    · have hsr := hs.below (Nat.le_refl _) hbB
      obtain ⟨g, off, a1, c1, rfl, hc1, hc2, hz1, hft⟩ := hsr.file hlt
      have hft := hft.lt
      have p0 := BW.cell hc1
      have p1 := BW.cell hc2
      cases hp : pathB xs[k].path with
      | false =>
        have HN := Lib.hid (overs_f hlt (fileAt_path hlt hp))
        go_wp2
        refine wp_region_bw (by kernel_rfl) (by kernel_rfl) ?_
        repeat (go_big_quiet_step ((go_at_call 60; exact Calls.bw (l4Path_is _ _ hz1 hp))))
        refine wpQuiet_nil ?_
        rintro w1 ⟨⟨_, hbw⟩, rfl⟩
        go_wp2
        go_ret
        exact ⟨ret_bool (by rw [HP.out, HN.out, Bool.and_false]), hbB.trans (hbw.mono hbB.size)⟩
      | true =>
        cases ht : textB xs[k].text with
        | false =>
          have HN := Lib.hid (overs_f hlt (fileAt_text hlt ht))
          go_wp2
          refine wp_region_bw (by kernel_rfl) (by kernel_rfl) ?_
          repeat (go_big_quiet_step ((first | (go_at_call 60; exact Calls.bw (l4Path_is _ _ hz1 hp)) | (go_at_call 64; exact Calls.bw_same (l1Ok_is _ _ _ (hft.bw _).rd ht)))))
          refine wpQuiet_nil ?_
          rintro w1 ⟨⟨_, hbw⟩, rfl⟩
          go_wp2
          go_ret
          exact ⟨ret_bool (by rw [HP.out, HN.out, Bool.and_false]), hbB.trans (hbw.mono hbB.size)⟩
        | true =>
          by_cases hk0 : 0 < k
          · have hk0' : decide (0 < k) = true := decide_eq_true hk0
            obtain ⟨g', off', a1', c1', hg, hc1', hc2', hz1', hft'⟩ := hsr.file (i := k - 1) (by omega)
            obtain ⟨rfl, rfl⟩ : g = g' ∧ off = off' := by simpa using hg
            have hc1b := hc1'
            have pc' := BW.cell hc1b
            cases hl : lessB (xs[k - 1]'(by omega)).path xs[k].path with
            | false =>
              have hl' := leq_str xs[k].path (xs[k - 1]'(by omega)).path hl
              have HN := Lib.hid (overs_f hlt (fileAt_step hk0 hlt hl))
              clear hg hl
              have e0 : IntKind.i64.wrap ((k : Int) - 1) = (k : Int) - 1 := IntWalk.i64_in _ (by omega)
              have e1 : ((k : Int) - 1).toNat = k - 1 := by omega
              have e2 : (0 : Int) ≤ (k : Int) - 1 := by omega
              go_wp2
              refine wp_region_bw (by kernel_rfl) (by kernel_rfl) ?_
              repeat (go_big_quiet_step ((first | (go_at_call 60; exact Calls.bw (l4Path_is _ _ hz1 hp)) | (go_at_call 64; exact Calls.bw_same (l1Ok_is _ _ _ (hft.bw _).rd ht)))))
              refine wpQuiet_nil ?_
              rintro w1 ⟨⟨_, hbw⟩, rfl⟩
              clear e0 e1
              go_wp2
              go_ret
              exact ⟨ret_bool (by rw [HP.out, HN.out, Bool.and_false]), hbB.trans (hbw.mono hbB.size)⟩
            | true =>
              have hl' := leq_str xs[k].path (xs[k - 1]'(by omega)).path hl
              have HS := Lib.hid (fileAt_pos hk0 hlt hp ht hl)
              clear hg hl
              have e0 : IntKind.i64.wrap ((k : Int) - 1) = (k : Int) - 1 := IntWalk.i64_in _ (by omega)
              have e1 : ((k : Int) - 1).toNat = k - 1 := by omega
              have e2 : (0 : Int) ≤ (k : Int) - 1 := by omega
              go_wp2
              refine wp_region_bw (by kernel_rfl) (by kernel_rfl) ?_
              repeat (go_big_quiet_step ((first | (go_at_call 60; exact Calls.bw (l4Path_is _ _ hz1 hp)) | (go_at_call 64; exact Calls.bw_same (l1Ok_is _ _ _ (hft.bw _).rd ht)))))
              refine wpQuiet_nil ?_
              rintro w1 ⟨⟨_, hbw⟩, rfl⟩
              clear e0 e1
              have hb1 := hbB.trans (hbw.mono hbB.size)
              clear hft p0 p1 hsr hc1 hc2 ht hp pc' hc1b hc1' hc2' hz1' hft' hl'
              go_wp2
              go_loopw [4] (fun j wq => (∃ m : Nat, m ≤ xs.length ∧ j = .int .i64 m ∧ Hid (∀ j', (hj : j' < m) → (hj2 : j' < xs.length) → inB xs[k].path xs[j'].path = false)) ∧ Below w1.heap.size w1 wq) (fun j _ => xs.length - (intOf j).toNat)
              case atStart => exact ⟨⟨0, by omega, rfl, by show ∀ _, _; intro j hj; omega⟩, Below.refl _ _⟩
              case round =>
                obtain ⟨⟨m, hm, rfl, HI⟩, hq⟩ := hrel
                have hbq := hb1.trans (hq.mono hb1.size)
                by_cases hlm : m < xs.length
                · have hsq := hs.below (Nat.le_refl _) hbq
                  obtain ⟨g2, off2, a2, c2, hg2, hd1, hd2, hz3, hft2⟩ := hsq.file (i := m) hlm
                  obtain ⟨rfl, rfl⟩ : g = g2 ∧ off = off2 := by simpa using hg2
                  obtain ⟨g3, off3, a3, c3, hg3, hd3, hd4, hz4, hft3⟩ := hsq.file (i := k) hlt
                  obtain ⟨rfl, rfl⟩ : g = g3 ∧ off = off3 := by simpa using hg3
                  have p2 := BW.cell hd1
                  have p3 := BW.cell hd3
                  clear hg2 hg3
                  cases hin : inB xs[k].path xs[m].path with
                  | true =>
                    have HN := Lib.hid (overs_f2 hlt hlm hin)
                    go_wp2
                    refine wp_region_bw (by kernel_rfl) (by kernel_rfl) ?_
                    repeat (go_big_quiet_step ((go_at_call 61; exact Calls.bw_same (l4In_is _ _ _ hz4 hz3 hin))))
                    refine wpQuiet_nil ?_
                    rintro w1 ⟨⟨_, hbw⟩, rfl⟩
                    go_wp2
                    go_ret
                    exact ⟨ret_bool (by rw [HP.out, HN.out, Bool.and_false]), hbq.trans (hbw.mono hbq.size)⟩
                  | false =>
                    have HN := Lib.hid hin
                    go_wp2
                    refine wp_region_bw (by kernel_rfl) (by kernel_rfl) ?_
                    repeat (go_big_quiet_step ((go_at_call 61; exact Calls.bw_same (l4In_is _ _ _ hz4 hz3 hin))))
                    refine wpQuiet_nil ?_
                    rintro w1 ⟨⟨_, hbw⟩, rfl⟩
                    go_wp2
                    go_roundw
                    case rel => exact ⟨⟨m + 1, by omega, by go_num, by show ∀ _, _; intro j' hj hj2; by_cases e : j' < m; exact HI.out j' e hj2; exact (show j' = m by omega) ▸ HN.out⟩, hq.trans (hbw.mono hq.size)⟩
                    case measure => simp [intOf]; omega
                · have HT := Lib.hid (overAt_t hlt fun j hj => HI.out j (by omega) hj)
                  go_wp2
                  go_roundw
                  case rel => exact ⟨⟨k + 1, by omega, by go_num, by show ∀ _, _; intro j hj; by_cases e : j < k; exact HA.out j e; exact (show j = k by omega) ▸ ⟨HS.out, HT.out⟩⟩, hbq⟩
                  case measure => simp [intOf]; omega
          · have hk0' : decide (0 < k) = false := decide_eq_false hk0
            have HS := Lib.hid (fileAt_first (by omega) hlt hp ht)
            go_wp2
            refine wp_region_bw (by kernel_rfl) (by kernel_rfl) ?_
            repeat (go_big_quiet_step ((first | (go_at_call 60; exact Calls.bw (l4Path_is _ _ hz1 hp)) | (go_at_call 64; exact Calls.bw_same (l1Ok_is _ _ _ (hft.bw _).rd ht)))))
            refine wpQuiet_nil ?_
            rintro w1 ⟨⟨_, hbw⟩, rfl⟩
            have hb1 := hbB.trans (hbw.mono hbB.size)
            clear hft p0 p1 hsr hc1 hc2 ht hp
            go_wp2
            go_loopw [4] (fun j wq => (∃ m : Nat, m ≤ xs.length ∧ j = .int .i64 m ∧ Hid (∀ j', (hj : j' < m) → (hj2 : j' < xs.length) → inB xs[k].path xs[j'].path = false)) ∧ Below w1.heap.size w1 wq) (fun j _ => xs.length - (intOf j).toNat)
            case atStart => exact ⟨⟨0, by omega, rfl, by show ∀ _, _; intro j hj; omega⟩, Below.refl _ _⟩
            case round =>
              obtain ⟨⟨m, hm, rfl, HI⟩, hq⟩ := hrel
              have hbq := hb1.trans (hq.mono hb1.size)
              by_cases hlm : m < xs.length
              · have hsq := hs.below (Nat.le_refl _) hbq
                obtain ⟨g2, off2, a2, c2, hg2, hd1, hd2, hz3, hft2⟩ := hsq.file (i := m) hlm
                obtain ⟨rfl, rfl⟩ : g = g2 ∧ off = off2 := by simpa using hg2
                obtain ⟨g3, off3, a3, c3, hg3, hd3, hd4, hz4, hft3⟩ := hsq.file (i := k) hlt
                obtain ⟨rfl, rfl⟩ : g = g3 ∧ off = off3 := by simpa using hg3
                have p2 := BW.cell hd1
                have p3 := BW.cell hd3
                clear hg2 hg3
                cases hin : inB xs[k].path xs[m].path with
                | true =>
                  have HN := Lib.hid (overs_f2 hlt hlm hin)
                  go_wp2
                  refine wp_region_bw (by kernel_rfl) (by kernel_rfl) ?_
                  repeat (go_big_quiet_step ((go_at_call 61; exact Calls.bw_same (l4In_is _ _ _ hz4 hz3 hin))))
                  refine wpQuiet_nil ?_
                  rintro w1 ⟨⟨_, hbw⟩, rfl⟩
                  go_wp2
                  go_ret
                  exact ⟨ret_bool (by rw [HP.out, HN.out, Bool.and_false]), hbq.trans (hbw.mono hbq.size)⟩
                | false =>
                  have HN := Lib.hid hin
                  go_wp2
                  refine wp_region_bw (by kernel_rfl) (by kernel_rfl) ?_
                  repeat (go_big_quiet_step ((go_at_call 61; exact Calls.bw_same (l4In_is _ _ _ hz4 hz3 hin))))
                  refine wpQuiet_nil ?_
                  rintro w1 ⟨⟨_, hbw⟩, rfl⟩
                  go_wp2
                  go_roundw
                  case rel => exact ⟨⟨m + 1, by omega, by go_num, by show ∀ _, _; intro j' hj hj2; by_cases e : j' < m; exact HI.out j' e hj2; exact (show j' = m by omega) ▸ HN.out⟩, hq.trans (hbw.mono hq.size)⟩
                  case measure => simp [intOf]; omega
              · have HT := Lib.hid (overAt_t hlt fun j hj => HI.out j (by omega) hj)
                go_wp2
                go_roundw
                case rel => exact ⟨⟨k + 1, by omega, by go_num, by show ∀ _, _; intro j hj; by_cases e : j < k; exact HA.out j e; exact (show j = k by omega) ▸ ⟨HS.out, HT.out⟩⟩, hbq⟩
                case measure => simp [intOf]; omega
    · have HN := Lib.hid (overs_t (t := xs) fun i hi => HA.out i (by omega))
      go_wp2
      go_ret
      exact ⟨ret_bool (by rw [HP.out, HN.out, Bool.and_true]; rw [decide_eq_decide]; omega), hbB⟩
theorem l4Ok_is {S : Nat → Prop} (v : Value) (xs : List File) (w : World) (hv : rd S w [v] xs) {b : Bool} (h : treeB xs = b) :
    Calls Tryz.prog 45 #[v] w fun e w' => e = .returned (.bool b) ∧ Below w.heap.size w w' := by rw [← h]; exact l4Ok_any v xs w hv
end Go.Proofs.YthddcfbjgcbioaaGreatDoor
namespace Go.Vc
open Go.RowKit
open Rep (rd)
/-- what an append at a laid literal leaves alone -/
theorem grewX_old {α : Type} [Own α] [Tid α] {H : Nat → Prop} {B m : Nat} {wx w5 : World} {v : Value} {xs : List α} {o : Obj} (hG : GrewX H B m (wx.alloc o) w5 v xs) {b : Nat} (hb : b < wx.heap.size) (h : b < B ∨ H b) : w5.heap[b]? = wx.heap[b]? := by
  have e := Below.heap_alloc wx o b hb
  rcases h with h | h
  · exact (hG.below.block b h).trans e
  · exact (hG.holes b (by simp; omega) h).trans e
theorem FreshX.upTo {α : Type} [Own α] {H : Nat → Prop} {B m m' : Nat} {w : World} {vs : List Value} {x : α} (h : FreshX H B m w vs x) (hm : m ≤ m') : FreshX H B m' w vs x := by
  obtain ⟨F, ho, hn, hb, hh⟩ := h
  exact ⟨F, ho, hn, fun b hb' => ⟨(hb b hb').1, by have := hb b hb'; omega⟩, hh⟩
/-- a slice of rows, read -/
theorem FreshX.unraw {α : Type} [Rep α] [Tid α] {H T : Nat → Prop} {B m : Nat} {w' : World} {v : Value} {rs : List (Raw α)} {xs : List α} (h : FreshX H B m w' [v] rs) (h2 : All2 (fun r x => Rep.rd T w' (Raw.vs r) x) rs xs) : Rep.rd (fun b => B ≤ b ∨ T b) w' [v] xs := by
  obtain ⟨a, cap, rfl, hs⟩ := h.fresh.shape
  have hl := h2.len
  rw [hl]
  exact (hs.unraw h2).rd
end Go.Vc
namespace Go.Proofs.YthddcfbjgcbioaaGreatDoor
open Go.RowKit Go.Vc
open Go.Vc.Rep (rd)
open Go.Vc.Own (own)

set_option maxHeartbeats 16000000 in
set_option maxRecDepth 100000 in
theorem l4Set_any {S T : Nat → Prop} (v : Value) (t : List File) (p : ByteArray) (tv : Value) (tx : List ByteArray) (w : World) (hv : rd S w [v] t) (hl : t.length ≤ 1000) (hz : p.size ≤ maxLen) (ht : rd T w [tv] tx) (hx : tx.length ≤ 1000) :
    Calls Tryz.prog 62 #[v, .agg #[.string p, tv]] w fun e w' => ∃ v', e = .returned v' ∧ rd (fun b => (S b ∧ b < w.heap.size) ∨ w.heap.size ≤ b) w' [v'] (setT t ⟨p, tx⟩) ∧ Below w.heap.size w w' := by
  obtain ⟨a, cap, rfl, hs⟩ := rd_slice_elim (Rep.bound hv)
  obtain ⟨at_, ct, rfl, hts⟩ := rd_slice_elim (Rep.lt ht)
  have hle := hs.le
  obtain ⟨wb, hwb⟩ : ∃ wb, wb = w.alloc (.cells #[.string p, .slice at_ tx.length ct] 36) := ⟨_, rfl⟩
  obtain ⟨hB0, hsb, hq⟩ := boxed (vs := [.string p, .slice at_ tx.length ct]) hwb
  have q0 := hq 0 _ rfl
  have q1 := hq 1 _ rfl
  have HW := Lib.hid hwb
  have hE : Fresh wb.heap.size (wb.alloc (.cells #[] 36)).heap.size (wb.alloc (.cells #[] 36)) [.slice (some ⟨wb.heap.size, 0, none⟩) 0 0] ([] : List (Raw File)) := (Fresh.empty (β := Raw File) (by decide) wb.heap.size wb (Nat.le_refl _)).now
  rw [show (⟨wb.heap.size, 0, none⟩ : Addr) = ⟨w.heap.size + 1, 0, none⟩ from by rw [hsb]] at hE
  have hBE := (Below.refl wb.heap.size wb).alloc (Nat.le_refl _) (.cells #[] 36)
  have hlt0 : w.heap.size < wb.heap.size := by omega
  have H0 : Hid (setT t ⟨p, tx⟩ = [] ++ setG ⟨p, tx⟩ false (t.drop 0)) := rfl
  clear hq hwb hsb
  go_enter Tryz.func62, Tryz.ntmps62
  go_wp2
  rw [← HW.out]
  go_loopw [5, 6, 7] (fun out pt i wr => (∃ (k : Nat) (ol : List (Raw File)) (ys : List File) (c : Bool) (na nb : Nat), k ≤ t.length ∧ i = .int .i64 k ∧ pt = .bool c ∧ ol.length ≤ 2 * k ∧ FreshX (fun b => na ≤ b ∧ b < nb) wb.heap.size wr.heap.size wr [out] ol ∧ (c = false → na = nb) ∧ nb ≤ wr.heap.size ∧ w.heap.size ≤ na ∧ All2 (fun (r : Raw File) x => rd (fun b => (S b ∧ b < w.heap.size) ∨ (na ≤ b ∧ b < nb)) wr (Raw.vs r) x) ol ys ∧ Hid (setT t ⟨p, tx⟩ = ys ++ setG ⟨p, tx⟩ c (t.drop k))) ∧ Below wb.heap.size wb wr) (fun _ _ i _ => t.length - (intOf i).toNat)
  case atStart => exact ⟨⟨0, [], [], false, w.heap.size, w.heap.size, by omega, rfl, rfl, by simp, Fresh.off (H := fun b => w.heap.size ≤ b ∧ b < w.heap.size) hE (fun b hb => by have := hb.1; have := hb.2; omega), fun _ => rfl, by simp; omega, Nat.le_refl _, trivial, H0.out⟩, hBE⟩
  case round =>
    clear hE hBE H0
    obtain ⟨⟨k, ol, ys, c, na, nb, hk, rfl, rfl, hol, hFX, hcn, hnb, hna, hA2, HA⟩, hbr⟩ := hrel
    obtain ⟨wx, rfl⟩ : ∃ wx : World, wx = wr := ⟨_, rfl⟩
    obtain ⟨a2, c2, rfl, _⟩ := hFX.fresh.shape
    have hsr := hbr.size
    have q0 := keepc q0 hbr
    have q1 := keepc q1 hbr
    by_cases hlt : k < t.length
    · obtain ⟨g, off, a1, c1, rfl, hc1, hc2, hz1, hft⟩ := hs.file hlt
      have hgb : g < w.heap.size := World.block_lt_of_cell? w _ hc1
      have hbx := hB0.trans (hbr.mono hB0.size)
      have hc1 := keepc hc1 hbx
      have hc2 := keepc hc2 hbx
      have hft := hft.below (Nat.le_refl _) hbx
      have hraw := rd_file_mk hz1 hft
      have HP := Lib.hid (fun h1 h2 => tset_put (f := ⟨p, tx⟩) (k := k) (M := setT t ⟨p, tx⟩) (ol := ys) (t := t) h1 hlt h2)
      have HS := Lib.hid (fun h1 h2 => tset_same (f := ⟨p, tx⟩) (k := k) (M := setT t ⟨p, tx⟩) (ol := ys) (t := t) h1 hlt h2)
      have HL := Lib.hid (fun h1 h2 => tset_less (f := ⟨p, tx⟩) (k := k) (M := setT t ⟨p, tx⟩) (ol := ys) (t := t) h1 hlt h2)
      have HMo := Lib.hid (fun h1 => tset_more (f := ⟨p, tx⟩) (k := k) (M := setT t ⟨p, tx⟩) (ol := ys) (t := t) h1 hlt)
      have HSk := Lib.hid (fun h1 => tset_skip (f := ⟨p, tx⟩) (k := k) (M := setT t ⟨p, tx⟩) (ol := ys) (t := t) h1 hlt)
      have hir : ∀ q : ByteArray, lessB q q = false := lessB_irr
      obtain ⟨fk, hfk⟩ : ∃ fk, fk = t[k] := ⟨_, rfl⟩
      rw [← hfk] at hc1 hc2 hz1 hft hraw HP HS HL HMo HSk
      clear hfk
      cases c with
      | false =>
        have hnn := hcn rfl
        clear hcn
        subst hnn
        cases hls : lessB fk.path p with
        | true =>
          have hne : ¬ fk.path = p := fun e => by rw [e, hir] at hls; cases hls
          have HN2 := Lib.hid (HL.out HA.out hls hne)
          have hd : decide (fk.path = p) = false := decide_eq_false hne
          have hl' : Op.bytesLess fk.path.toList p.toList = true := hls
          clear hne hls HP HS HL HMo HSk HA
          have e0 := BW.cell q0
          have e1 := BW.cell hc1
          go_wp2
          refine wp_region_bw (by kernel_rfl) (by kernel_rfl) ?_
          repeat (go_big_quiet_step (fail))
          refine wpQuiet_nil ?_
          rintro w1 ⟨⟨_, hbw⟩, rfl⟩
          have hFX := (hFX.below (Nat.le_refl _) hbw).upTo hbw.size
          have hA2 := hA2.mono fun r x h => Rep.below h (Nat.le_refl _) hbw
          have hbr := hbr.trans (hbw.mono hsr)
          have hsr' := hbw.size
          have hsr := hbr.size
          have q0 := keepc q0 hbw
          have q1 := keepc q1 hbw
          have hc1 := keepc hc1 hbw
          have hc2 := keepc hc2 hbw
          have hraw := Rep.below hraw (Nat.le_refl _) hbw
          clear hbw
          obtain ⟨wx, rfl⟩ : ∃ wx : World, wx = w1 := ⟨_, rfl⟩
          clear e0 e1
          have e0 := BW.cell q0
          have e1 := BW.cell hc1
          go_wp2
          refine wp_region_bw (by kernel_rfl) (by kernel_rfl) ?_
          repeat (go_big_quiet_step (fail))
          refine wpQuiet_nil ?_
          rintro w1 ⟨⟨_, hbw⟩, rfl⟩
          have hFX := (hFX.below (Nat.le_refl _) hbw).upTo hbw.size
          have hA2 := hA2.mono fun r x h => Rep.below h (Nat.le_refl _) hbw
          have hbr := hbr.trans (hbw.mono hsr)
          have hsr' := hbw.size
          have hsr := hbr.size
          have q0 := keepc q0 hbw
          have q1 := keepc q1 hbw
          have hc1 := keepc hc1 hbw
          have hc2 := keepc hc2 hbw
          have hraw := Rep.below hraw (Nat.le_refl _) hbw
          clear hbw
          obtain ⟨wx, rfl⟩ : ∃ wx : World, wx = w1 := ⟨_, rfl⟩
          clear e0 e1
          go_wp2_with (at_builtin; go_must (refine wpList_app_leafX slz_file.slt.raw rfl (.tmp 45) (.tmp 50) rfl rfl (hFX.alloc _) (fun b hb => by have := hb.2; simp; omega) (by simp; omega) rfl rfl (lit_raw (heap_alloc_new _ _) rfl (one_cells2 _ _ _ _) (by decide)) (by simp; omega) (by unfold maxLen; simp; omega) ?_); intro a7 c7 w7 hG7)
          have hs7 := hG7.below.size
          have hG7f := hG7.fresh
          go_roundw
          case rel => exact ⟨⟨k + 1, _, _, false, na, na, by omega, by go_num, rfl, by simp; omega, by simpa using hG7f, (fun _ => rfl), by simp at hs7; omega, by omega, (hA2.mono fun r x h => Rep.frame (fun b hb hl => ⟨grewX_old hG7 hl (hb.imp (fun h => by have := h.2; omega) id), hb⟩) h).snoc (Rep.frame (fun b hb hl => ⟨grewX_old hG7 (by have := hb.2; omega) (.inl (by have := hb.2; omega)), .inl hb⟩) hraw), HN2.out⟩, (hbr.alloc hsr _).trans hG7.below⟩
          case measure => simp [intOf] <;> omega
        | false =>
          have hl' : Op.bytesLess fk.path.toList p.toList = false := hls
          have HPP := Lib.hid (HP.out HA.out hls)
          have HSS := Lib.hid (HS.out HA.out hls)
          clear hls HP HS HL HMo HSk HA
          have e0 := BW.cell q0
          have e1 := BW.cell hc1
          go_wp2
          refine wp_region_bw (by kernel_rfl) (by kernel_rfl) ?_
          repeat (go_big_quiet_step (fail))
          refine wpQuiet_nil ?_
          rintro w1 ⟨⟨_, hbw⟩, rfl⟩
          have hFX := (hFX.below (Nat.le_refl _) hbw).upTo hbw.size
          have hA2 := hA2.mono fun r x h => Rep.below h (Nat.le_refl _) hbw
          have hbr := hbr.trans (hbw.mono hsr)
          have hsr' := hbw.size
          have hsr := hbr.size
          have q0 := keepc q0 hbw
          have q1 := keepc q1 hbw
          have hc1 := keepc hc1 hbw
          have hc2 := keepc hc2 hbw
          have hraw := Rep.below hraw (Nat.le_refl _) hbw
          clear hbw
          obtain ⟨wx, rfl⟩ : ∃ wx : World, wx = w1 := ⟨_, rfl⟩
          clear e0 e1
          have hF1 := hFX.fresh
          have hEm := Fresh.empty (β := ByteArray) Nat.one_pos wx.drew.heap.size wx.drew (Nat.le_refl _)
          have htx := hts.keep (hB0.trans (hbr.mono hB0.size))
          go_wp2_with fail
          go_region_held3 (fun w' => w'.cell? ⟨w.heap.size, 0, none⟩ = some (.string p) ∧ w'.cell? ⟨w.heap.size, 1, none⟩ = some (.slice at_ tx.length ct))
            (first | go_keep | exact K9 | exact K5 | exact ⟨q0, q1⟩)
            (first
              | (refine step_app_leaf slz_string.slt rfl (.tmp 30) (.tmp 32) rfl rfl (xs := ([] : List ByteArray)) hEm (by simp) rfl rfl (htx.drew.alloc _) (by simp; omega) (by unfold maxLen; simp; omega) ?_; intro a5 c5 w5 hG5; have hF5 := hG5.fresh; have hs5 := hG5.below.size; have hb5 : Below wx.heap.size wx w5 := ((Below.refl wx.heap.size wx).drew.alloc (by simp) _).trans (hG5.below.mono (by simp)); have K5 := And.intro (keepc q0 hb5) (keepc q1 hb5); rw [List.nil_append, List.length_nil, Nat.zero_add] at hF5)
              | (go_must (refine step_app_leafX (H := fun b => wx.heap.size ≤ b ∧ b < w5.heap.size) (m0 := wx.heap.size) slz_file.slt.raw rfl (.tmp 27) (.tmp 35) rfl rfl (((hF1.below (Nat.le_refl _) hb5).off (fun b hb => .inr hb.1)).alloc _) (fun b hb => by have := hb.2; simp; omega) (by have := hb5.size; simp; omega) rfl rfl (lit_raw (heap_alloc_new _ _) rfl (one_cells2 _ _ _ _) (by decide)) (by simp; omega) (by unfold maxLen; simp; omega) ?_); intro a9 c9 w9 hG9; have K9 := And.intro ((hG9.below.cell (p := ⟨w.heap.size, 0, none⟩) (by omega)).trans (keepc K5.1 ((Below.refl _ _).alloc (Nat.le_refl _) _))) ((hG9.below.cell (p := ⟨w.heap.size, 1, none⟩) (by omega)).trans (keepc K5.2 ((Below.refl _ _).alloc (Nat.le_refl _) _)))))
          all_goals
            have hs5' := hb5.size
            have hs9 := hG9.below.size
            have q0 := K9.1
            have q1 := K9.2
            have hFX := hG9.fresh
            have hnew : rd (fun b => (S b ∧ b < w.heap.size) ∨ (wx.heap.size ≤ b ∧ b < w5.heap.size)) w9 [.string p, .slice a5 tx.length c5] (⟨p, tx⟩ : File) :=
              ⟨[_], [_], rfl, ⟨rfl, hz⟩, Rep.frame (fun b hb hl => ⟨grewX_old hG9 hl (.inr ⟨by simpa using hb.1, hb.2⟩), .inr ⟨by simpa using hb.1, hb.2⟩⟩) hF5.rd2⟩
            have hold : All2 (fun (r : Raw File) x => rd (fun b => (S b ∧ b < w.heap.size) ∨ (wx.heap.size ≤ b ∧ b < w5.heap.size)) w9 (Raw.vs r) x) ol ys :=
              hA2.mono fun r x h => Rep.frame (fun b hb hl => by
                have h9 : S b ∧ b < w.heap.size := hb.resolve_right (fun h => by omega)
                exact ⟨(grewX_old hG9 (by omega) (.inl (by have := h9.2; omega))).trans (hb5.block b hl), .inl h9⟩) h
            have hA2 := All2.snoc (a := (⟨[.string p, .slice a5 tx.length c5], rfl, one_cells2 _ _ _ _⟩ : Raw File)) (b := (⟨p, tx⟩ : File)) hold hnew
            have hbr : Below wb.heap.size wb w9 := ((hbr.trans (hb5.mono hsr)).alloc (by omega) _).trans hG9.below
            have hszz : w5.heap.size ≤ w9.heap.size := by simp at hs9; omega
            have hszx : w.heap.size ≤ wx.heap.size := by omega
            have hsr := hbr.size
            clear K9 K5 hold hnew hs9 htx hEm hF5 hF1
            have hraw := Rep.frame (w' := w9) (S' := fun b => S b ∧ b < w.heap.size) (fun b hb hl => ⟨(grewX_old hG9 (by omega) (.inl (by have := hb.2; omega))).trans (hb5.block b hl), hb⟩) hraw
            have hgl := World.block_lt_of_cell? wx _ hc1
            have hc1 : w9.cell? ⟨g, off + k * 2, none⟩ = some (.string fk.path) := by rw [World.cell?_of_block (w := wx) ((grewX_old hG9 (b := g) (by omega) (.inl (by omega))).trans (hb5.block g hgl))]; exact hc1
            have hc2 : w9.cell? ⟨g, off + k * 2 + 1, none⟩ = some (.slice a1 fk.text.length c1) := by rw [World.cell?_of_block (w := wx) ((grewX_old hG9 (b := g) (by omega) (.inl (by omega))).trans (hb5.block g hgl))]; exact hc2
            obtain ⟨na, hna2⟩ : ∃ na, na = wx.heap.size := ⟨_, rfl⟩
            obtain ⟨nb, hnb2⟩ : ∃ nb, nb = w5.heap.size := ⟨_, rfl⟩
            rw [← hna2, ← hnb2] at hFX hA2
            rw [← hna2] at hszx
            rw [← hnb2] at hszz
            obtain ⟨wy, hwy⟩ : ∃ wy, wy = w9 := ⟨_, rfl⟩
            clear hG9 hb5 hs5 hna2 hnb2 hnb hna hgl
            subst hwy
            by_cases he : fk.path = p
            · have HN2 := Lib.hid (HSS.out he)
              have hd : decide (fk.path = p) = true := decide_eq_true he
              clear he HSS HPP
              have e0 := BW.cell q0
              have e1 := BW.cell hc1
              go_wp2
              refine wp_region_bw (by kernel_rfl) (by kernel_rfl) ?_
              repeat (go_big_quiet_step (fail))
              refine wpQuiet_nil ?_
              rintro w1 ⟨⟨_, hbw⟩, rfl⟩
              have hFX := (hFX.below (Nat.le_refl _) hbw).upTo hbw.size
              have hA2 := hA2.mono fun r x h => Rep.below h (Nat.le_refl _) hbw
              have hbr := hbr.trans (hbw.mono hsr)
              have hsr' := hbw.size
              have hsr := hbr.size
              have q0 := keepc q0 hbw
              have q1 := keepc q1 hbw
              have hc1 := keepc hc1 hbw
              have hc2 := keepc hc2 hbw
              have hraw := Rep.below hraw (Nat.le_refl _) hbw
              clear hbw
              obtain ⟨wx, rfl⟩ : ∃ wx : World, wx = w1 := ⟨_, rfl⟩
              clear e0 e1
              go_wp2
              go_roundw
              case rel => exact ⟨⟨k + 1, _, _, true, na, nb, by omega, by go_num, rfl, (by first | omega | (simp; omega)), by simpa using hFX, (fun h => by cases h), by omega, by omega, hA2, HN2.out⟩, hbr⟩
              case measure => simp [intOf] <;> omega
            · have HN2 := Lib.hid (HPP.out he)
              have hd : decide (fk.path = p) = false := decide_eq_false he
              clear he HSS HPP
              have e0 := BW.cell q0
              have e1 := BW.cell hc1
              go_wp2
              refine wp_region_bw (by kernel_rfl) (by kernel_rfl) ?_
              repeat (go_big_quiet_step (fail))
              refine wpQuiet_nil ?_
              rintro w1 ⟨⟨_, hbw⟩, rfl⟩
              have hFX := (hFX.below (Nat.le_refl _) hbw).upTo hbw.size
              have hA2 := hA2.mono fun r x h => Rep.below h (Nat.le_refl _) hbw
              have hbr := hbr.trans (hbw.mono hsr)
              have hsr' := hbw.size
              have hsr := hbr.size
              have q0 := keepc q0 hbw
              have q1 := keepc q1 hbw
              have hc1 := keepc hc1 hbw
              have hc2 := keepc hc2 hbw
              have hraw := Rep.below hraw (Nat.le_refl _) hbw
              clear hbw
              obtain ⟨wx, rfl⟩ : ∃ wx : World, wx = w1 := ⟨_, rfl⟩
              clear e0 e1
              go_wp2_with (at_builtin; go_must (refine wpList_app_leafX slz_file.slt.raw rfl (.tmp 45) (.tmp 50) rfl rfl (hFX.alloc _) (fun b hb => by have := hb.2; simp; omega) (by simp; omega) rfl rfl (lit_raw (heap_alloc_new _ _) rfl (one_cells2 _ _ _ _) (by decide)) (by simp; omega) (by unfold maxLen; simp; omega) ?_); intro a7 c7 w7 hG7)
              have hs7 := hG7.below.size
              have hG7f := hG7.fresh
              go_roundw
              case rel => exact ⟨⟨k + 1, _, _, true, na, nb, by omega, by go_num, rfl, by simp; omega, by simpa using hG7f, (fun h => by cases h), by simp at hs7; omega, by omega, (hA2.mono fun r x h => Rep.frame (fun b hb hl => ⟨grewX_old hG7 hl (hb.imp (fun h => by have := h.2; omega) id), hb⟩) h).snoc (Rep.frame (fun b hb hl => ⟨grewX_old hG7 (by have := hb.2; omega) (.inl (by have := hb.2; omega)), .inl hb⟩) hraw), HN2.out⟩, (hbr.alloc hsr _).trans hG7.below⟩
              case measure => simp [intOf] <;> omega
      | true =>
        clear HP HS HL hcn hir
        by_cases he : fk.path = p
        · have HN2 := Lib.hid (HSk.out HA.out he)
          have hd : decide (fk.path = p) = true := decide_eq_true he
          clear he HMo HSk HA
          go_wp2
          refine wp_region_bw (by kernel_rfl) (by kernel_rfl) ?_
          repeat (go_big_quiet_step (fail))
          refine wpQuiet_nil ?_
          rintro w1 ⟨⟨_, hbw⟩, rfl⟩
          have hFX := (hFX.below (Nat.le_refl _) hbw).upTo hbw.size
          have hA2 := hA2.mono fun r x h => Rep.below h (Nat.le_refl _) hbw
          have hbr := hbr.trans (hbw.mono hsr)
          have hsr' := hbw.size
          have hsr := hbr.size
          have q0 := keepc q0 hbw
          have q1 := keepc q1 hbw
          have hc1 := keepc hc1 hbw
          have hc2 := keepc hc2 hbw
          have hraw := Rep.below hraw (Nat.le_refl _) hbw
          clear hbw
          obtain ⟨wx, rfl⟩ : ∃ wx : World, wx = w1 := ⟨_, rfl⟩
          have e0 := BW.cell q0
          have e1 := BW.cell hc1
          go_wp2
          refine wp_region_bw (by kernel_rfl) (by kernel_rfl) ?_
          repeat (go_big_quiet_step (fail))
          refine wpQuiet_nil ?_
          rintro w1 ⟨⟨_, hbw⟩, rfl⟩
          have hFX := (hFX.below (Nat.le_refl _) hbw).upTo hbw.size
          have hA2 := hA2.mono fun r x h => Rep.below h (Nat.le_refl _) hbw
          have hbr := hbr.trans (hbw.mono hsr)
          have hsr' := hbw.size
          have hsr := hbr.size
          have q0 := keepc q0 hbw
          have q1 := keepc q1 hbw
          have hc1 := keepc hc1 hbw
          have hc2 := keepc hc2 hbw
          have hraw := Rep.below hraw (Nat.le_refl _) hbw
          clear hbw
          obtain ⟨wx, rfl⟩ : ∃ wx : World, wx = w1 := ⟨_, rfl⟩
          clear e0 e1
          go_wp2
          go_roundw
          case rel => exact ⟨⟨k + 1, _, _, true, na, nb, by omega, by go_num, rfl, (by first | omega | (simp; omega)), by simpa using hFX, (fun h => by cases h), by omega, by omega, hA2, HN2.out⟩, hbr⟩
          case measure => simp [intOf] <;> omega
        · have HN2 := Lib.hid (HMo.out HA.out he)
          have hd : decide (fk.path = p) = false := decide_eq_false he
          clear he HMo HSk HA
          go_wp2
          refine wp_region_bw (by kernel_rfl) (by kernel_rfl) ?_
          repeat (go_big_quiet_step (fail))
          refine wpQuiet_nil ?_
          rintro w1 ⟨⟨_, hbw⟩, rfl⟩
          have hFX := (hFX.below (Nat.le_refl _) hbw).upTo hbw.size
          have hA2 := hA2.mono fun r x h => Rep.below h (Nat.le_refl _) hbw
          have hbr := hbr.trans (hbw.mono hsr)
          have hsr' := hbw.size
          have hsr := hbr.size
          have q0 := keepc q0 hbw
          have q1 := keepc q1 hbw
          have hc1 := keepc hc1 hbw
          have hc2 := keepc hc2 hbw
          have hraw := Rep.below hraw (Nat.le_refl _) hbw
          clear hbw
          obtain ⟨wx, rfl⟩ : ∃ wx : World, wx = w1 := ⟨_, rfl⟩
          have e0 := BW.cell q0
          have e1 := BW.cell hc1
          go_wp2
          refine wp_region_bw (by kernel_rfl) (by kernel_rfl) ?_
          repeat (go_big_quiet_step (fail))
          refine wpQuiet_nil ?_
          rintro w1 ⟨⟨_, hbw⟩, rfl⟩
          have hFX := (hFX.below (Nat.le_refl _) hbw).upTo hbw.size
          have hA2 := hA2.mono fun r x h => Rep.below h (Nat.le_refl _) hbw
          have hbr := hbr.trans (hbw.mono hsr)
          have hsr' := hbw.size
          have hsr := hbr.size
          have q0 := keepc q0 hbw
          have q1 := keepc q1 hbw
          have hc1 := keepc hc1 hbw
          have hc2 := keepc hc2 hbw
          have hraw := Rep.below hraw (Nat.le_refl _) hbw
          clear hbw
          obtain ⟨wx, rfl⟩ : ∃ wx : World, wx = w1 := ⟨_, rfl⟩
          clear e0 e1
          go_wp2_with (at_builtin; go_must (refine wpList_app_leafX slz_file.slt.raw rfl (.tmp 45) (.tmp 50) rfl rfl (hFX.alloc _) (fun b hb => by have := hb.2; simp; omega) (by simp; omega) rfl rfl (lit_raw (heap_alloc_new _ _) rfl (one_cells2 _ _ _ _) (by decide)) (by simp; omega) (by unfold maxLen; simp; omega) ?_); intro a7 c7 w7 hG7)
          have hs7 := hG7.below.size
          have hG7f := hG7.fresh
          go_roundw
          case rel => exact ⟨⟨k + 1, _, _, true, na, nb, by omega, by go_num, rfl, by simp; omega, by simpa using hG7f, (fun h => by cases h), by simp at hs7; omega, by omega, (hA2.mono fun r x h => Rep.frame (fun b hb hl => ⟨grewX_old hG7 hl (hb.imp (fun h => by have := h.2; omega) id), hb⟩) h).snoc (Rep.frame (fun b hb hl => ⟨grewX_old hG7 (by have := hb.2; omega) (.inl (by have := hb.2; omega)), .inl hb⟩) hraw), HN2.out⟩, (hbr.alloc hsr _).trans hG7.below⟩
          case measure => simp [intOf] <;> omega
    · cases c with
      | true =>
        have HN := Lib.hid (tset_end1 HA.out hlt)
        go_wp2
        go_ret
        exact ⟨_, rfl, by rw [HN.out]; exact Rep.mono (fun b hb => by rcases hb with hb | hb | hb; exact .inr (by omega); exact .inl hb; exact .inr (by have := hb.1; omega)) (hFX.unraw hA2), hB0.trans (hbr.mono hB0.size)⟩
      | false =>
        have HN := Lib.hid (tset_end0 HA.out hlt)
        have hnn := hcn rfl
        clear hcn HA
        subst hnn
        have hF1 := hFX.fresh
        have hEm := Fresh.empty (β := ByteArray) Nat.one_pos wx.drew.heap.size wx.drew (Nat.le_refl _)
        have htx := hts.keep (hB0.trans (hbr.mono hB0.size))
        go_wp2_with fail
        go_region_held3 (fun w' => w'.cell? ⟨w.heap.size, 0, none⟩ = some (.string p) ∧ w'.cell? ⟨w.heap.size, 1, none⟩ = some (.slice at_ tx.length ct))
          (first | go_keep | exact K9 | exact K5 | exact ⟨q0, q1⟩)
          (first
            | (refine step_app_leaf slz_string.slt rfl (.tmp 57) (.tmp 59) rfl rfl (xs := ([] : List ByteArray)) hEm (by simp) rfl rfl (htx.drew.alloc _) (by simp; omega) (by unfold maxLen; simp; omega) ?_; intro a5 c5 w5 hG5; have hF5 := hG5.fresh; have hs5 := hG5.below.size; have hb5 : Below wx.heap.size wx w5 := ((Below.refl wx.heap.size wx).drew.alloc (by simp) _).trans (hG5.below.mono (by simp)); have K5 := And.intro (keepc q0 hb5) (keepc q1 hb5); rw [List.nil_append, List.length_nil, Nat.zero_add] at hF5)
            | (go_must (refine step_app_leafX (H := fun b => wx.heap.size ≤ b ∧ b < w5.heap.size) (m0 := wx.heap.size) slz_file.slt.raw rfl (.tmp 54) (.tmp 62) rfl rfl (((hF1.below (Nat.le_refl _) hb5).off (fun b hb => .inr hb.1)).alloc _) (fun b hb => by have := hb.2; simp; omega) (by have := hb5.size; simp; omega) rfl rfl (lit_raw (heap_alloc_new _ _) rfl (one_cells2 _ _ _ _) (by decide)) (by simp; omega) (by unfold maxLen; simp; omega) ?_); intro a9 c9 w9 hG9; have K9 := And.intro ((hG9.below.cell (p := ⟨w.heap.size, 0, none⟩) (by omega)).trans (keepc K5.1 ((Below.refl _ _).alloc (Nat.le_refl _) _))) ((hG9.below.cell (p := ⟨w.heap.size, 1, none⟩) (by omega)).trans (keepc K5.2 ((Below.refl _ _).alloc (Nat.le_refl _) _)))))
        all_goals
          have hs5' := hb5.size
          have hs9 := hG9.below.size
          have q0 := K9.1
          have q1 := K9.2
          have hFX := hG9.fresh
          have hnew : rd (fun b => (S b ∧ b < w.heap.size) ∨ (wx.heap.size ≤ b ∧ b < w5.heap.size)) w9 [.string p, .slice a5 tx.length c5] (⟨p, tx⟩ : File) :=
            ⟨[_], [_], rfl, ⟨rfl, hz⟩, Rep.frame (fun b hb hl => ⟨grewX_old hG9 hl (.inr ⟨by simpa using hb.1, hb.2⟩), .inr ⟨by simpa using hb.1, hb.2⟩⟩) hF5.rd2⟩
          have hold : All2 (fun (r : Raw File) x => rd (fun b => (S b ∧ b < w.heap.size) ∨ (wx.heap.size ≤ b ∧ b < w5.heap.size)) w9 (Raw.vs r) x) ol ys :=
            hA2.mono fun r x h => Rep.frame (fun b hb hl => by
              have h9 : S b ∧ b < w.heap.size := hb.resolve_right (fun h => by omega)
              exact ⟨(grewX_old hG9 (by omega) (.inl (by have := h9.2; omega))).trans (hb5.block b hl), .inl h9⟩) h
          have hA2 := All2.snoc (a := (⟨[.string p, .slice a5 tx.length c5], rfl, one_cells2 _ _ _ _⟩ : Raw File)) (b := (⟨p, tx⟩ : File)) hold hnew
          have hbr : Below wb.heap.size wb w9 := ((hbr.trans (hb5.mono hsr)).alloc (by omega) _).trans hG9.below
          have hszz : w5.heap.size ≤ w9.heap.size := by simp at hs9; omega
          have hszx : w.heap.size ≤ wx.heap.size := by omega
          have hsr := hbr.size
          clear K9 K5 hold hnew hs9 htx hEm hF5 hF1
          go_wp2
          go_ret
          exact ⟨_, rfl, by rw [HN.out]; exact Rep.mono (fun b hb => by rcases hb with hb | hb | hb; exact .inr (by omega); exact .inl hb; exact .inr (by have := hb.1; omega)) ((show FreshX (fun b => wx.heap.size ≤ b ∧ b < w5.heap.size) wb.heap.size w9.heap.size w9 _ _ from by simpa using hFX).unraw hA2), hB0.trans (hbr.mono hB0.size)⟩

set_option maxHeartbeats 4000000 in
set_option maxRecDepth 100000 in
theorem specTreeSet {S T : Nat → Prop} (v : Value) (t : List File) (p : ByteArray) (tv : Value) (tx : List ByteArray) (w : World) (hv : rd S w [v] t) (hz : p.size ≤ maxLen) (ht : rd T w [tv] tx) (hx : tx.length ≤ 1000) :
    Calls Tryz.prog 43 #[v, .agg #[.string p, tv]] w fun e w' => ∃ v', e = .returned (.tuple #[v', .bool (setB t ⟨p, tx⟩)]) ∧ rd (fun b => w.heap.size ≤ b) w' [v'] (treeSet t ⟨p, tx⟩) ∧ Below w.heap.size w w' := by
  have hv := Rep.lt hv
  obtain ⟨at_, ct, rfl, hts⟩ := rd_slice_elim (Rep.lt ht)
  obtain ⟨wb, hwb⟩ : ∃ wb, wb = w.alloc (.cells #[.string p, .slice at_ tx.length ct] 36) := ⟨_, rfl⟩
  obtain ⟨hB0, hsb, hq⟩ := boxed (vs := [.string p, .slice at_ tx.length ct]) hwb
  have q0 := hq 0 _ rfl
  have q1 := hq 1 _ rfl
  have HW := Lib.hid hwb
  clear hq hwb hsb
  cases hb : treeB t with
  | false =>
    have H1 : Hid (setB t ⟨p, tx⟩ = false) := by show _ = _; rw [setB, hb]; rfl
    have H2 : Hid (treeSet t ⟨p, tx⟩ = []) := by show _ = _; rw [treeSet, hb]; rfl
    go_enter Tryz.func43, Tryz.ntmps43
    go_wp2_with fail
    rw [← HW.out]
    refine (l4Ok_is _ t _ (Rep.keep hv hB0) hb).mono ?_
    rintro e w1 ⟨rfl, hb1⟩
    go_wp2
    go_ret2
    exact ⟨.slice none 0 0, by rw [H1.out]; rfl, by rw [H2.out]; exact rd_slice_nil _ _, hB0.trans (hb1.mono hB0.size)⟩
  | true =>
    obtain ⟨h8, h10⟩ := tree_files hb
    have hl1 : t.length ≤ 1000 := by omega
    have hs0 := hB0.size
    go_enter Tryz.func43, Tryz.ntmps43
    go_wp2_with fail
    rw [← HW.out]
    refine (l4Ok_is _ t _ (Rep.keep hv hB0) hb).mono ?_
    rintro e w1 ⟨rfl, hb1⟩
    have HB := hB0.trans (hb1.mono hB0.size)
    have hs1 := hb1.size
    have q0 := keepc q0 hb1
    have q1 := keepc q1 hb1
    have htx := hts.keep HB
    have hvt := Rep.keep hv HB
    clear HW
    go_wp2_with fail
    go_region_held3 (fun w' => w'.cell? ⟨w.heap.size, 0, none⟩ = some (.string p) ∧ w'.cell? ⟨w.heap.size, 1, none⟩ = some (.slice at_ tx.length ct))
      (first | go_keep | exact KB | exact KA | exact ⟨q0, q1⟩)
      (first
        | (go_at_call 17; refine (l4Copy_any _ t _ (Rep.drew hvt) hl1 h10).mono ?_; rintro e wA ⟨vA, rfl, hA, hbA⟩; have KA := And.intro (BW.cell (w := w1.drew) q0 ⟨wA, hbA⟩) (BW.cell (w := w1.drew) q1 ⟨wA, hbA⟩))
        | (go_at_call 62; refine (l4Set_any _ t p _ tx _ hA.rd hl1 hz ((htx.drew.below (Nat.le_refl _) hbA).rd) hx).mono ?_; rintro e wB ⟨vB, rfl, hS, hbB⟩; have KB := And.intro (BW.cell (w := wA) KA.1 ⟨wB, hbB⟩) (BW.cell (w := wA) KA.2 ⟨wB, hbB⟩)))
    all_goals
      have hsA := hbA.size
      have hsB := hbB.size
      have hbAB : Below w1.heap.size w1 wB := (Below.refl _ _).drew.trans ((hbA.mono (by simp)).trans (hbB.mono (by simp at *; omega)))
      have hS : rd (fun b => w1.heap.size ≤ b) wB [vB] (setT t ⟨p, tx⟩) := Rep.mono (fun b hb => by rcases hb with hb | hb; have := hb.1; simp at this; omega; simp at hsA; omega) hS
      have HB2 := HB.trans (hbAB.mono HB.size)
      have hs2 := HB2.size
      clear KA KB hA hbA hbB q0 q1
      obtain ⟨nt, hnt⟩ : ∃ nt, nt = setT t ⟨p, tx⟩ := ⟨_, rfl⟩
      rw [← hnt] at hS
      cases hb2 : treeB nt with
      | true =>
        have H1 : Hid (setB t ⟨p, tx⟩ = true) := by show _ = _; rw [setB, hb, ← hnt, hb2]; rfl
        have H2 : Hid (treeSet t ⟨p, tx⟩ = nt) := by show _ = _; rw [treeSet, hb, ← hnt, hb2]; rfl
        go_wp2_with fail
        refine (l4Ok_is _ nt _ hS hb2).mono ?_
        rintro e w3 ⟨rfl, hb3⟩
        go_wp2
        go_ret2
        exact ⟨_, by rw [H1.out]; rfl, by rw [H2.out]; exact Rep.mono (fun b hb => by omega) (Rep.below hS (Nat.le_refl _) hb3), HB2.trans (hb3.mono HB2.size)⟩
      | false =>
        have H1 : Hid (setB t ⟨p, tx⟩ = false) := by show _ = _; rw [setB, hb, ← hnt, hb2]; rfl
        have H2 : Hid (treeSet t ⟨p, tx⟩ = t) := by show _ = _; rw [treeSet, hb, ← hnt, hb2]; rfl
        go_wp2_with fail
        refine (l4Ok_is _ nt _ hS hb2).mono ?_
        rintro e w3 ⟨rfl, hb3⟩
        have HB3 := HB2.trans (hb3.mono HB2.size)
        go_wp2_with fail
        refine (l4Copy_any _ t _ (Rep.keep hv HB3) hl1 h10).mono ?_
        rintro e w4 ⟨v4, rfl, hC, hb4⟩
        go_wp2
        go_ret2
        exact ⟨_, by rw [H1.out]; rfl, by rw [H2.out]; exact Rep.mono (fun b hb => by have := HB3.size; omega) hC.rd, HB3.trans (hb4.mono HB3.size)⟩
end Go.Proofs.YthddcfbjgcbioaaGreatDoor
