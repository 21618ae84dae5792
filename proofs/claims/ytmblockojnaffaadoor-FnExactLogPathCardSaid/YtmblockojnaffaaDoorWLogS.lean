/-
  Walks: ancestors by somebody: the two functions.
-/
import Derived.Test.YtmblockojnaffaaDoorWLogW
import Derived.Test.YtmblockojnaffaaDoorVL
import Derived.Test.YtmblockojnaffaaDoorWRepoS
set_option linter.unusedVariables false
namespace Go.Vc
open Go.RowKit
theorem FreshX.mono {α : Type} [Own α] {H : Nat → Prop} {B m m' : Nat} {w : World} {vs : List Value} {x : α} (h : FreshX H B m w vs x) (hm : m ≤ m') : FreshX H B m' w vs x := by
  obtain ⟨F, ho, hn, hb, hh⟩ := h
  exact ⟨F, ho, hn, fun b hb' => ⟨(hb b hb').1, Nat.lt_of_lt_of_le (hb b hb').2 hm⟩, hh⟩
theorem FreshX.shape {α : Type} [Own α] [Tid α] {H : Nat → Prop} {B m : Nat} {w : World} {v : Value} {xs : List α} (h : FreshX H B m w [v] xs) : ∃ a cap, v = .slice a xs.length cap := by
  obtain ⟨a, c, rfl, _⟩ := h.fresh.shape
  exact ⟨a, c, rfl⟩
end Go.Vc
namespace Go.Proofs.YtmblockojnaffaaDoor
open Go.RowKit Go.Vc
open Go.Vc.Rep (rd)
open Go.Vc.Own (own)

set_option maxHeartbeats 4000000 in
set_option maxRecDepth 100000 in
theorem implLogWho {S T : Nat → Prop} (r : Repo) (v0 v1 : Value) (at_ : Int) (who : ByteArray) (w : World) (h0 : rd S w [v0] r.commits) (h1 : rd T w [v1] r.heads) (hi : I64 at_) (hz : who.size ≤ 1048576) (hS : shortR r) (hM : ML w) :
    Calls Tryd.prog 29 #[.agg #[v0, v1], .int .i64 at_, .string who] w fun e w' => ∃ v', e = .returned v' ∧ Fresh w.heap.size w'.heap.size w' [v'] (logT r at_ (whoB r.commits who)) ∧ Below w.heap.size w w' := by
  have h0 := Rep.lt h0
  have h1 := Rep.lt h1
  have hB0 : Below w.heap.size w ((w.alloc (.cells #[v0, v1] 32)).alloc (.cells #[.string who] 9)) := (((Below.refl _ _).alloc (by simp <;> omega) _).alloc (by simp <;> omega) _)
  have hbl := (Below.refl (w.alloc (.cells #[v0, v1] 32)).heap.size (w.alloc (.cells #[v0, v1] 32))).alloc (Nat.le_refl _) (.cells #[.string who] 9)
  have p0 : (w.alloc (.cells #[v0, v1] 32)).cell? ⟨w.heap.size, 0, none⟩ = some v0 := by rw [cell_of_row _ _ 0 _ _ (0, 0) (heap_alloc_new _ _)]; rfl
  have p1 : (w.alloc (.cells #[v0, v1] 32)).cell? ⟨w.heap.size, 1, none⟩ = some v1 := by rw [cell_of_row _ _ 1 _ _ (0, 0) (heap_alloc_new _ _)]; rfl
  have q0 := keepc p0 hbl
  have q1 := keepc p1 hbl
  have qw : ((w.alloc (.cells #[v0, v1] 32)).alloc (.cells #[.string who] 9)).cell? ⟨w.heap.size + 1, 0, none⟩ = some (.string who) := by rw [cell_of_row _ _ 0 _ _ (0, 0) (heap_new_at (by simp))]; rfl
  go_enter Tryd.func29, Tryd.ntmps29
  go_wp2_with fail
  refine (logWho_any _ _ _ _ r at_ (whoB r.commits who) _ (Rep.keep h0 hB0) (Rep.keep h1 hB0) hi hS (hM.keep hB0) (fun _ i wq hi0 hi1 hbq => logWho1_is v0 r.commits _ _ who i wq (Rep.keep (Rep.keep h0 hB0) (hbq.mono hB0.size)) (keepc q0 hbq) (keepc qw hbq) hi0 hi1)).mono ?_
  rintro e w1 ⟨v, rfl, hF, hb⟩
  go_wp2
  go_ret
  exact ⟨_, rfl, hF.mono hB0.size (Nat.le_refl _), hB0.trans (hb.mono hB0.size)⟩

set_option maxHeartbeats 8000000 in
set_option maxRecDepth 100000 in
theorem specLogWho {S T : Nat → Prop} (r : Repo) (v0 v1 : Value) (at_ : Int) (who : ByteArray) (w : World) (h0 : rd S w [v0] r.commits) (h1 : rd T w [v1] r.heads) (hi : I64 at_) (hz : who.size ≤ 1048576) (hS : shortR r) (hM : ML w) :
    Calls Tryd.prog 28 #[.agg #[v0, v1], .int .i64 at_, .string who] w fun e w' => ∃ v', e = .returned v' ∧ Fresh w.heap.size w'.heap.size w' [v'] (logT r at_ (whoB r.commits who)) ∧ Below w.heap.size w w' := by
  have h0 := Rep.lt h0
  have h1 := Rep.lt h1
  obtain ⟨a, cap, rfl, hs⟩ := rd_slice_elim h0
  have hle := hs.le
  have hB0 : Below w.heap.size w ((w.alloc (.cells #[.slice a r.commits.length cap, v1] 32)).alloc (.cells #[] (Tid.tid Int))) := (((Below.refl _ _).alloc (by simp <;> omega) _).alloc (by simp <;> omega) _)
  have hbl := (Below.refl (w.alloc (.cells #[.slice a r.commits.length cap, v1] 32)).heap.size (w.alloc (.cells #[.slice a r.commits.length cap, v1] 32))).alloc (Nat.le_refl _) (.cells #[] (Tid.tid Int))
  have p0 : (w.alloc (.cells #[.slice a r.commits.length cap, v1] 32)).cell? ⟨w.heap.size, 0, none⟩ = some (.slice a r.commits.length cap) := by rw [cell_of_row _ _ 0 _ _ (0, 0) (heap_alloc_new _ _)]; rfl
  have p1 : (w.alloc (.cells #[.slice a r.commits.length cap, v1] 32)).cell? ⟨w.heap.size, 1, none⟩ = some v1 := by rw [cell_of_row _ _ 1 _ _ (0, 0) (heap_alloc_new _ _)]; rfl
  have q0 := keepc p0 hbl
  have q1 := keepc p1 hbl
  have hE := Fresh.empty (β := Int) Nat.one_pos (w.alloc (.cells #[.slice a r.commits.length cap, v1] 32)).heap.size (w.alloc (.cells #[.slice a r.commits.length cap, v1] 32)) (Nat.le_refl _)
  have hsz1 : (w.alloc (.cells #[.slice a r.commits.length cap, v1] 32)).heap.size = w.heap.size + 1 := by simp
  have hsz2 : ((w.alloc (.cells #[.slice a r.commits.length cap, v1] 32)).alloc (.cells #[] (Tid.tid Int))).heap.size = w.heap.size + 2 := by simp
  rw [hsz1] at hE
  clear p0 p1
  have HR : Hid (logT r at_ (whoB r.commits who) = if (repoB r && withinB at_ 0 ((r.commits.length : Int) - 1)) = true then ((allOf r.commits at_).filter (whoB r.commits who)).reverse else []) := by show _ = _; unfold logT; rw [any_one]
  cases hr : repoB r with
  | false =>
    rw [hr] at HR
    go_enter Tryd.func28, Tryd.ntmps28
    go_wp2_with fail
    refine (l7Ok_is _ _ r _ (Rep.keep h0 hB0) (Rep.keep h1 hB0) hr).mono ?_
    rintro e w1 ⟨rfl, hb1⟩
    go_wp2
    go_ret
    exact ⟨_, rfl, by rw [HR.out]; exact Fresh.nil _ _ _ (by decide), hB0.trans (hb1.mono hB0.size)⟩
  | true =>
    rw [hr] at HR
    have hfew := repo_le hr
    have hPar := repo_par hr
    go_enter Tryd.func28, Tryd.ntmps28
    go_wp2_with fail
    refine (l7Ok_is _ _ r _ (Rep.keep h0 hB0) (Rep.keep h1 hB0) hr).mono ?_
    rintro e w1 ⟨rfl, hb1⟩
    clear hr
    have q0 := keepc q0 hb1
    have q1 := keepc q1 hb1
    have hE := hE.below (Nat.le_refl _) hb1
    have HB := hB0.trans (hb1.mono hB0.size)
    have hs1 := hb1.size
    rw [hsz2] at hs1
    cases hw : withinB at_ 0 ((r.commits.length : Int) - 1) with
    | false =>
      rw [hw] at HR
      go_wp2_with (go_at_call 55; with_reducible refine (l1In_is _ _ _ _ hw).mono ?_; rintro e w3 ⟨rfl, rfl⟩)
      go_ret
      exact ⟨_, rfl, by rw [HR.out]; exact Fresh.nil _ _ _ (by decide), HB⟩
    | true =>
      rw [hw] at HR
      have hat : 0 ≤ at_ ∧ at_ < (r.commits.length : Int) := by
        simp only [withinB, Bool.and_eq_true, decide_eq_true_eq] at hw
        omega
      go_wp2_with (go_at_call 55; with_reducible refine (l1In_is _ _ _ _ hw).mono ?_; rintro e w3 ⟨rfl, rfl⟩)
      go_wp2_with fail
      refine (l8All_any _ _ r.commits at_ _ (Rep.keep h0 HB) hPar hfew hat).mono ?_
      rintro e w2 ⟨v2, rfl, hL, hb2⟩
      have q0 := keepc q0 hb2
      have hE := hE.below (Nat.le_refl _) hb2
      have HB := HB.trans (hb2.mono HB.size)
      have hs2 := hb2.size
      have hll := allOf_len r.commits at_
      have HMEM := Lib.hid (show ∀ x, x ∈ allOf r.commits at_ → 0 ≤ x ∧ x < (r.commits.length : Int) from fun x hx => allOf_mem hx)
      obtain ⟨ls, hls⟩ : ∃ ls, ls = allOf r.commits at_ := ⟨_, rfl⟩
      rw [← hls] at hL hll HMEM HR
      obtain ⟨al, cl, hal, _⟩ := hL.shape
      subst hal
      have hLs := (rd_slice_of hL.rd2).2
      obtain ⟨H, hH⟩ : ∃ H : Nat → Prop, H = fun b => w1.heap.size ≤ b ∧ b < w2.heap.size := ⟨_, rfl⟩
      have hLs : IsSlice H w2 al cl ls := by rw [hH]; exact hLs
      have hX : FreshX H (w.heap.size + 1) w2.heap.size w2 [.slice (some ⟨w.heap.size + 1, 0, none⟩) 0 0] ([] : List Int) := (hE.off (fun b hb => by rw [hH] at hb; omega)).mono (by omega)
      have hHl : ∀ b, H b → b < w2.heap.size := fun b hb => by rw [hH] at hb; omega
      have HH := Lib.hid hHl
      have hH0 : ∀ b, H b → w.heap.size < b := fun b hb => by rw [hH] at hb; omega
      have HH0 := Lib.hid hH0
      have HST : Hid ((ls.filter (whoB r.commits who)).reverse = [] ++ ((ls.take ls.length).filter (whoB r.commits who)).reverse) := by show _ = _; rw [List.take_length]; rfl
      clear hls hL hE hb1 hb2 hB0 hbl hsz1 hsz2 hw hH hHl hH0 hPar hat q1 h0 hle
      go_wp2
      go_loopw [7, 9] (fun out i wr => (∃ (k : Nat) (ol : List Int), k ≤ ls.length ∧ i = .int .i64 ((k : Int) - 1) ∧ ol.length + k ≤ ls.length ∧ FreshX H (w.heap.size + 1) wr.heap.size wr [out] ol ∧ IsSlice H wr al cl ls ∧ wr.cell? ⟨w.heap.size, 0, none⟩ = some (.slice a r.commits.length cap) ∧ w2.heap.size ≤ wr.heap.size ∧ Hid ((ls.filter (whoB r.commits who)).reverse = ol ++ ((ls.take k).filter (whoB r.commits who)).reverse)) ∧ Below w.heap.size w wr) (fun _ i _ => (intOf i + 1).toNat)
      case atStart => exact ⟨⟨ls.length, [], Nat.le_refl _, rfl, by simp, hX, hLs, q0, Nat.le_refl _, HST.out⟩, HB⟩
      case round =>
        clear hX hLs q0 HST
        obtain ⟨⟨k, ol, hk, rfl, hol, hO, hLs, q0, hsr, HA⟩, hb⟩ := hrel
        obtain ⟨a3, c3, rfl⟩ := hO.shape
        have hsz := hb.size
        by_cases hk0 : k = 0
        · subst hk0
          have e0 : (((0 : Nat) : Int) - 1) = -1 := rfl
          rw [e0]
          have HN := Lib.hid (rev_end HA.out)
          go_wp2
          go_ret
          exact ⟨_, rfl, by rw [HR.out, HN.out]; exact hO.fresh.mono (Nat.le_succ _) (Nat.le_refl _), hb⟩
        · obtain ⟨j, rfl⟩ : ∃ j, k = j + 1 := ⟨k - 1, by omega⟩
          have hj : j < ls.length := by omega
          have ej : (((j + 1 : Nat) : Int) - 1) = (j : Int) := by omega
          rw [ej]
          obtain ⟨g, off, hal, hc, hi64⟩ := hLs.int hj
          subst hal
          obtain ⟨hx0, hx1⟩ := HMEM.out _ (List.getElem_mem hj)
          obtain ⟨x, hx⟩ : ∃ x : Nat, ls[j] = (x : Int) := ⟨ls[j].toNat, by omega⟩
          have hxl : x < r.commits.length := by omega
          obtain ⟨g1, off1, ap, np, at2, nt, rfl, hc0, hc1, hc2, hpar, hz1, htr⟩ := (hs.keep hb).commit hxl
          have HW : Hid (whoB r.commits who ls[j] = decide (r.commits[x].who = who)) := by show _ = _; unfold whoB; rw [hx, Int.toNat_natCast, getD_com hxl]
          have hi64 : I64 (x : Int) := by rw [← hx]; exact hi64
          rw [hx] at hc
          have p0 := BW.cell q0
          have pc := BW.cell hc
          have p1 := BW.cell hc1
          have HX := Lib.hid hx
          cases hd : decide (r.commits[x].who = who) with
          | false =>
            have HN := Lib.hid (rev_no HA.out hj (by rw [HW.out, hd]))
            clear hx hc0 hc2 hpar htr HW
            go_wp2
            refine wp_region_bw (by kernel_rfl) (by kernel_rfl) ?_
            repeat (go_big_quiet_step (fail))
            refine wpQuiet_nil ?_
            rintro w1 ⟨⟨_, hbw⟩, rfl⟩
            go_wp2
            go_roundw
            case rel => exact ⟨⟨j, ol, by omega, by go_num, by omega, (hO.below (Nat.le_refl _) hbw).mono hbw.size, hLs.below (Nat.le_refl _) hbw, keepc q0 hbw, by have := hbw.size; omega, HN.out⟩, hb.trans (hbw.mono hsz)⟩
            case measure => simp [intOf] <;> omega
          | true =>
            have HN := Lib.hid (rev_yes HA.out hj (by rw [HW.out, hd]))
            rw [hx] at HN
            clear hx hc0 hc2 hpar htr HW
            go_wp2
            refine wp_region_bw (by kernel_rfl) (by kernel_rfl) ?_
            repeat (go_big_quiet_step (fail))
            refine wpQuiet_nil ?_
            rintro w1 ⟨⟨_, hbw⟩, rfl⟩
            have hO := (hO.below (Nat.le_refl _) hbw).mono hbw.size
            have hLs := hLs.below (Nat.le_refl _) hbw
            have q0 := keepc q0 hbw
            have hc := keepc hc hbw
            have hb := hb.trans (hbw.mono hsz)
            have hsz := hb.size
            have hsw := hbw.size
            have hHw : ∀ b, H b → b < (w1.alloc (.cells #[.int .i64 (x : Int)] (Tid.tid Int))).heap.size := fun b hbb => by have := HH.out b hbb; simp; omega
            go_wp2_with (at_builtin; go_must (refine wpList_app_leafX slz_int.slt rfl (.tmp 44) (.tmp 49) rfl rfl (hO.alloc _) hHw (by simp; omega) rfl rfl (lit_ints [(x : Int)] (heap_alloc_new _ _) (by simpa using hi64) (by unfold maxLen; simp)) (by simp; omega) (by unfold maxLen; simp; omega) ?_); intro a5 c5 w5 hG5)
            go_roundw
            case rel => exact ⟨⟨j, ol ++ [(x : Int)], by omega, by go_num, by simp; omega, by have := hG5.fresh; simpa using this, (hLs.alloc _).frame (fun b hbb hl => ⟨hG5.holes b hl hbb, hbb⟩), by have := hG5.below.cell (p := ⟨w.heap.size, 0, none⟩) (Nat.lt_succ_self _); rw [this]; exact keepc q0 ((Below.refl _ _).alloc (Nat.le_refl _) _), by have := hG5.below.size; simp at this; omega, HN.out⟩, (hb.alloc hsz _).trans (hG5.below.mono (Nat.le_succ _))⟩
            case measure => simp [intOf] <;> omega
end Go.Proofs.YtmblockojnaffaaDoor
