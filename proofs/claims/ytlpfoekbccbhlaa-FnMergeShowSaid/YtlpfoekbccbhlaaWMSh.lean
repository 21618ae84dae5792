/-
  Walks: what a merge shows, and how many clashes it has.
-/
import Derived.Test.YtlpfoekbccbhlaaApS
import Derived.Test.YtlpfoekbccbhlaaWG6
import Derived.Test.YtlpfoekbccbhlaaWG7
import Derived.Test.YtlpfoekbccbhlaaPlMW
import Derived.Deep.RegionHeld3
set_option linter.unusedVariables false
namespace Go.Proofs.Ytlpfoekbccbhlaa
open Go.RowKit Go.Vc
open Go.Vc.Rep (rd)
open Go.Vc.Own (own)
theorem cell_alloc {w : World} {p : Addr} {u : Value} (h : w.cell? p = some u) (o : Obj) : (w.alloc o).cell? p = some u :=
  (World.cell?_of_block (Below.heap_alloc w o p.block (World.block_lt_of_cell? w p h))).trans h
theorem cell_drew {w : World} {p : Addr} {u : Value} (h : w.cell? p = some u) : w.drew.cell? p = some u := h
theorem mOf_len (o a b : List ByteArray) : (mOf o a b).length ≤ 121 ∧ SmallP (mOf o a b) 121 := by
  unfold mOf
  split
  · rename_i h
    obtain ⟨t1, t2, t3⟩ := three_iff.1 h
    have := mergeT_small (text_len10 t1) (text_len10 t2) (text_len10 t3)
    exact ⟨this.1, this⟩
  · exact ⟨by simp, SmallP.nil _⟩

set_option maxHeartbeats 4000000 in
set_option maxRecDepth 100000 in
theorem implMergeClash {S T U : Nat → Prop} (v u x : Value) (o a b : List ByteArray) (w : World) (hv : rd S w [v] o) (hu : rd T w [u] a) (hx : rd U w [x] b) :
    Calls Try.prog 9 #[v, u, x] w fun e w' => e = .returned (.int .i64 (mClash o a b)) ∧ Below w.heap.size w w' := by
  have hv := Rep.lt hv
  have hu := Rep.lt hu
  have hx := Rep.lt hx
  cases h1 : threeB o a b with
  | false =>
    have HD := Lib.hid (mClash_bad h1)
    go_enter Try.func9, Try.ntmps9
    go_wp2_with fail
    refine (areTexts_is _ _ _ o a b _ hv hu hx h1).mono ?_
    rintro e w1 ⟨rfl, rfl⟩
    go_wp2
    go_ret
    exact ⟨ret_int (by rw [HD.out]), Below.refl _ _⟩
  | true =>
    obtain ⟨t1, t2, t3⟩ := three_iff.1 h1
    have HD := Lib.hid (mClash_ok h1)
    have l1 := text_len10 t1
    have l2 := text_len10 t2
    have l3 := text_len10 t3
    have hsm := mergeT_small l1 l2 l3
    go_enter Try.func9, Try.ntmps9
    go_wp2_with fail
    refine (areTexts_is _ _ _ o a b _ hv hu hx h1).mono ?_
    rintro e w' ⟨rfl, rfl⟩
    go_wp2_with fail
    refine (mergeOf_any _ _ _ o a b _ hv hu hx l1 l2 l3).mono ?_
    rintro e wm ⟨vm, rfl, hM, hbm⟩
    obtain ⟨P, hP⟩ : ∃ P, P = mergeT o a b := ⟨_, rfl⟩
    rw [← hP] at hM hsm HD
    clear hP h1 t1 t2 t3
    obtain ⟨am, cm, rfl, hMs⟩ := rd_slice_elim (Rep.lt hM.rd)
    have hpl := hsm.1
    have hszm := hbm.size
    go_wp2
    go_loopw [7, 20] (fun n i wr => (∃ (k m : Nat), k ≤ P.length ∧ m ≤ k ∧ i = .int .i64 k ∧ n = .int .i64 m ∧ Hid (clashN P = m + clashN (P.drop k))) ∧ Below wm.heap.size wm wr) (fun _ i _ => P.length - (intOf i).toNat)
    case atStart => exact ⟨⟨0, 0, by omega, by omega, rfl, rfl, by show _ = _; simp⟩, Below.refl _ _⟩
    case round =>
      obtain ⟨⟨k, m, hk, hm, rfl, rfl, HA⟩, hb⟩ := hrel
      have hsz := hb.size
      by_cases hlt : k < P.length
      · obtain ⟨g, off, a1, c1, b2, d2, b3, d3, b4, d4, rfl, x0, x1, x2, x3, x4, y1, y2, y3, y4⟩ := (hMs.keep hb).part hlt
        have HY := Lib.hid (fun he => clash_yes HA.out hlt he)
        have HN := Lib.hid (fun he => clash_no HA.out hlt he)
        obtain ⟨pp, hpp⟩ : ∃ pp, pp = P[k] := ⟨_, rfl⟩
        rw [← hpp] at x0 x1 x2 x3 x4 HY HN
        clear hpp y1 y2 y3 y4 HA
        cases hcl : pp.clash with
        | false =>
          have H2 := Lib.hid (HN.out hcl)
          rw [hcl] at x0
          clear hcl HY HN
          go_wp2
          go_roundw
          case rel => exact ⟨⟨k + 1, m, by omega, by omega, by go_num, rfl, H2.out⟩, hb.alloc hsz _⟩
          case measure => simp [intOf]; omega
        | true =>
          have H2 := Lib.hid (HY.out hcl)
          rw [hcl] at x0
          clear hcl HY HN
          go_wp2
          go_roundw
          case rel => exact ⟨⟨k + 1, m + 1, by omega, by omega, by go_num, by go_num, H2.out⟩, hb.alloc hsz _⟩
          case measure => simp [intOf]; omega
      · have HE := Lib.hid (clash_end HA.out hlt)
        go_wp2
        go_ret
        exact ⟨ret_int (by rw [HD.out, HE.out]), hbm.trans (hb.mono hszm)⟩

set_option maxHeartbeats 16000000 in
set_option maxRecDepth 100000 in
theorem implMergeShow {S T U : Nat → Prop} (v u x : Value) (o a b : List ByteArray) (w : World) (hv : rd S w [v] o) (hu : rd T w [u] a) (hx : rd U w [x] b) :
    Calls Try.prog 6 #[v, u, x] w fun e w' => ∃ v', e = .returned v' ∧ Fresh w.heap.size w'.heap.size w' [v'] (mShow o a b) ∧ Below w.heap.size w w' := by
  have HD : Hid (mShow o a b = showF (mOf o a b)) := rfl
  obtain ⟨hpl, hsm⟩ := mOf_len o a b
  go_enter Try.func6, Try.ntmps6
  go_wp2_with fail
  refine (implMergeOf _ _ _ o a b _ hv hu hx).mono ?_
  rintro e wm ⟨vm, rfl, hM, hbm⟩
  obtain ⟨P, hP⟩ : ∃ P, P = mOf o a b := ⟨_, rfl⟩
  rw [← hP] at hM hsm HD hpl
  clear hP
  obtain ⟨am, cm, rfl, hMs⟩ := rd_slice_elim (Rep.lt hM.rd)
  have hszm := hbm.size
  go_wp2
  go_loopw [7, 15] (fun out i wr => (∃ (k : Nat) (ol : List ByteArray), k ≤ P.length ∧ i = .int .i64 k ∧ Fresh wm.heap.size wr.heap.size wr [out] ol ∧ ol.length ≤ 121 * k ∧ Hid (showF P = ol ++ showF (P.drop k))) ∧ Below wm.heap.size wm wr) (fun _ i _ => P.length - (intOf i).toNat)
  case atStart => exact ⟨⟨0, [], by omega, rfl, Fresh.nil _ _ _ (by decide), by simp, rfl⟩, Below.refl _ _⟩
  case round =>
    obtain ⟨⟨k, ol, hk, rfl, hF, hol, HA⟩, hb⟩ := hrel
    obtain ⟨a2, c2, rfl, _⟩ := hF.shape
    have hsz := hb.size
    by_cases hlt : k < P.length
    · obtain ⟨g, off, a1, c1, b2, d2, b3, d3, b4, d4, rfl, x0, x1, x2, x3, x4, y1, y2, y3, y4⟩ := (hMs.keep hb).part hlt
      have hsp := hsm.at hlt
      have HN := Lib.hid (showF_next HA.out hlt)
      obtain ⟨pp, hpp⟩ : ∃ pp, pp = P[k] := ⟨_, rfl⟩
      rw [← hpp] at x0 x1 x2 x3 x4 y1 y2 y3 y4 hsp HN
      clear hpp HA
      obtain ⟨wb, hwb⟩ : ∃ wb, wb = wr.alloc (.cells #[.bool pp.clash, .slice a1 pp.lines.length c1, .slice b2 pp.old.length d2, .slice b3 pp.one.length d3, .slice b4 pp.two.length d4] 45) := ⟨_, rfl⟩
      obtain ⟨hB0, hsb, hq⟩ := boxed (vs := [.bool pp.clash, .slice a1 pp.lines.length c1, .slice b2 pp.old.length d2, .slice b3 pp.one.length d3, .slice b4 pp.two.length d4]) hwb
      have q0 := hq 0 _ rfl
      have q1 := hq 1 _ rfl
      have q3 := hq 3 _ rfl
      have q4 := hq 4 _ rfl
      have HWB := Lib.hid hwb
      have hb0 : Below wm.heap.size wm wb := hb.trans (hB0.mono hsz)
      have hF0 : FS (fun b => wm.heap.size ≤ b ∧ b < wr.heap.size) wb [.slice a2 ol.length c2] ol := hF.fs.keep (fun b hb _ => hB0.block b hb.2)
      have hL0 : IsSlice (fun b => b < wm.heap.size) wb a1 c1 pp.lines := y1.frame (fun b hb _ => ⟨hB0.block b (by omega), hb⟩)
      have hO0 : IsSlice (fun b => b < wm.heap.size) wb b3 d3 pp.one := y3.frame (fun b hb _ => ⟨hB0.block b (by omega), hb⟩)
      have hT0 : IsSlice (fun b => b < wm.heap.size) wb b4 d4 pp.two := y4.frame (fun b hb _ => ⟨hB0.block b (by omega), hb⟩)
      have hsb1 : wb.heap.size ≤ wr.heap.size + 1 := by omega
      have hsb2 : wr.heap.size < wb.heap.size := by omega
      clear hwb hq hsb y1 y2 y3 y4
      cases hcl : pp.clash with
      | false =>
        have HSO := Lib.hid (show showOf pp = pp.lines by rw [showOf, if_neg (by rw [hcl]; simp)])
        rw [hcl] at x0 q0 HWB
        rw [HSO.out] at HN
        clear hcl HSO
        have hF0 := hF0.fresh (B := wm.heap.size) (m := wr.heap.size) (fun b hb _ => hb)
        go_wp2_with (at_builtin; rw [← HWB.out]; (refine wpList_app_leaf slz_string.slt rfl (.tmp 34) (.tmp 36) rfl rfl hF0 (by omega) rfl rfl hL0 (by omega) (by unfold maxLen; omega) ?_); intro a5 c5 w5 hG5)
        have hG := hG5.fresh
        go_roundw
        case rel => exact ⟨⟨k + 1, ol ++ pp.lines, by omega, by go_num, hG, by simp; omega, HN.out⟩, hb0.trans hG5.below⟩
        case measure => simp [intOf]; omega
      | true =>
        have HSO := Lib.hid (show showOf pp = ((([⟨#[60, 60, 60]⟩] ++ pp.one) ++ [⟨#[61, 61, 61]⟩]) ++ pp.two) ++ [⟨#[62, 62, 62]⟩] by rw [showOf, if_pos hcl])
        rw [hcl] at x0 q0 HWB
        rw [HSO.out] at HN
        clear hcl HSO
        go_wp2_with fail
        rw [← HWB.out]
        have q30 := q3
        have q40 := q4
        clear x0 x1 x2 x3 x4 q0 q1 hL0 hB0
        go_region_held3 (fun w' => w'.cell? ⟨wr.heap.size, 3, none⟩ = some (.slice b3 pp.one.length d3) ∧ w'.cell? ⟨wr.heap.size, 4, none⟩ = some (.slice b4 pp.two.length d4))
          (first | exact ⟨q3, q4⟩ | exact ⟨q35, q45⟩ | exact ⟨q34, q44⟩ | exact ⟨q33, q43⟩ | exact ⟨q32, q42⟩ | exact ⟨q31, q41⟩ | (refine ⟨?_, ?_⟩ <;> (repeat (first | with_reducible exact q34 | with_reducible exact q44 | with_reducible refine cell_drew ?_ | with_reducible refine cell_alloc ?_ _)) <;> done) | (refine ⟨?_, ?_⟩ <;> (repeat (first | with_reducible exact q33 | with_reducible exact q43 | with_reducible refine cell_drew ?_ | with_reducible refine cell_alloc ?_ _)) <;> done) | (refine ⟨?_, ?_⟩ <;> (repeat (first | with_reducible exact q32 | with_reducible exact q42 | with_reducible refine cell_drew ?_ | with_reducible refine cell_alloc ?_ _)) <;> done) | (refine ⟨?_, ?_⟩ <;> (repeat (first | with_reducible exact q31 | with_reducible exact q41 | with_reducible refine cell_drew ?_ | with_reducible refine cell_alloc ?_ _)) <;> done) | (refine ⟨?_, ?_⟩ <;> (repeat (first | with_reducible exact q30 | with_reducible exact q40 | with_reducible refine cell_drew ?_ | with_reducible refine cell_alloc ?_ _)) <;> done) | go_keep)
          (first
            | (refine step_app_named (S := fun b => (wm.heap.size ≤ b ∧ b < wr.heap.size)) (xs := ol) (v := .slice a2 ol.length c2) (R := fun _ => True) slz_string.slt rfl (.tmp 21) (.tmp 22) rfl (ys := [⟨#[60, 60, 60]⟩]) rfl ?_ rfl rfl ?_ ?_ ?_ ?_; (repeat (first | with_reducible exact hF0 | with_reducible refine FS.alloc ?_ _ | with_reducible refine FS.drew ?_)); (refine LitAt.slice (te := 9) (s := ⟨#[60, 60, 60]⟩) ?_ (by decide); repeat (first | ((with_reducible refine LitAt.at 9 _ ?_); focus (first | rfl | (simp; done) | omega | (simp; omega))) | (with_reducible refine LitAt.drew ?_) | (with_reducible refine LitAt.alloc ?_ _))); (first | omega | (simp; omega)); (unfold maxLen; (first | omega | (simp; omega))); intro e1 c1 m1 n1 X1 w1 HX1 hl1 hn1 hN1 hs1 hF1 hR1 hB1; (try simp at hn1); (try simp at hN1); (try simp at hl1); have hb1 : Below wm.heap.size wm w1 := Below.trans (by repeat (first | with_reducible exact hb0 | with_reducible refine Below.drew ?_ | with_reducible refine Below.alloc ?_ (by first | omega | (simp; omega) | (simp; done)) _)) (hB1 wm.heap.size (by omega) (fun b (hb : (wm.heap.size ≤ b ∧ b < wr.heap.size)) _ => by omega)); have hO1 : IsSlice (fun b => b < wm.heap.size) w1 b3 d3 pp.one := IsSlice.frame (S := fun b => b < wm.heap.size) (fun b (hb : b < wm.heap.size) _ => ⟨hR1 b (by omega) (by intro (h : (wm.heap.size ≤ b ∧ b < wr.heap.size)); omega), hb⟩) (by repeat (first | with_reducible exact hO0 | with_reducible refine IsSlice.drew ?_ | refine IsSlice.alloc ?_ _)); have hT1 : IsSlice (fun b => b < wm.heap.size) w1 b4 d4 pp.two := IsSlice.frame (S := fun b => b < wm.heap.size) (fun b (hb : b < wm.heap.size) _ => ⟨hR1 b (by omega) (by intro (h : (wm.heap.size ≤ b ∧ b < wr.heap.size)); omega), hb⟩) (by repeat (first | with_reducible exact hT0 | with_reducible refine IsSlice.drew ?_ | refine IsSlice.alloc ?_ _)); have q31 : w1.cell? ⟨wr.heap.size, 3, none⟩ = some (.slice b3 pp.one.length d3) := (World.cell?_of_block (hR1 wr.heap.size (by omega) (by (try dsimp only); omega))).trans (by repeat (first | with_reducible exact q30 | with_reducible refine cell_alloc ?_ _ | with_reducible refine cell_drew ?_)); have q41 : w1.cell? ⟨wr.heap.size, 4, none⟩ = some (.slice b4 pp.two.length d4) := (World.cell?_of_block (hR1 wr.heap.size (by omega) (by (try dsimp only); omega))).trans (by repeat (first | with_reducible exact q40 | with_reducible refine cell_alloc ?_ _ | with_reducible refine cell_drew ?_)))
            | (refine step_app_named (S := fun b => ((wm.heap.size ≤ b ∧ b < wr.heap.size) ∨ (n1 ≤ b ∧ b < w1.heap.size))) (xs := X1) (v := .slice e1 m1 c1) (R := fun b => b < wm.heap.size) slz_string.slt rfl (.tmp 23) (.tmp 25) rfl (ys := pp.one) rfl ?_ rfl rfl ?_ ?_ ?_ ?_; (repeat (first | with_reducible exact hF1 | with_reducible refine FS.alloc ?_ _ | with_reducible refine FS.drew ?_)); (repeat (first | with_reducible exact hO1 | refine IsSlice.alloc ?_ _)); (first | omega | (simp; omega)); (unfold maxLen; (first | omega | (simp; omega))); intro e2 c2 m2 n2 X2 w2 HX2 hl2 hn2 hN2 hs2 hF2 hR2 hB2; (try simp at hn2); (try simp at hN2); (try simp at hl2); have hb2 : Below wm.heap.size wm w2 := Below.trans (by repeat (first | with_reducible exact hb1 | with_reducible refine Below.drew ?_ | with_reducible refine Below.alloc ?_ (by first | omega | (simp; omega) | (simp; done)) _)) (hB2 wm.heap.size (by omega) (fun b (hb : ((wm.heap.size ≤ b ∧ b < wr.heap.size) ∨ (n1 ≤ b ∧ b < w1.heap.size))) _ => by omega)); have hT2 : IsSlice (fun b => b < wm.heap.size) w2 b4 d4 pp.two := IsSlice.frame (S := fun b => b < wm.heap.size) (fun b (hb : b < wm.heap.size) _ => ⟨hR2 b (by omega) (by intro (h : ((wm.heap.size ≤ b ∧ b < wr.heap.size) ∨ (n1 ≤ b ∧ b < w1.heap.size))); omega), hb⟩) (by repeat (first | with_reducible exact hT1 | with_reducible refine IsSlice.drew ?_ | refine IsSlice.alloc ?_ _)); have q32 : w2.cell? ⟨wr.heap.size, 3, none⟩ = some (.slice b3 pp.one.length d3) := (World.cell?_of_block (hR2 wr.heap.size (by omega) (by (try dsimp only); omega))).trans (by repeat (first | with_reducible exact q31 | with_reducible refine cell_alloc ?_ _ | with_reducible refine cell_drew ?_)); have q42 : w2.cell? ⟨wr.heap.size, 4, none⟩ = some (.slice b4 pp.two.length d4) := (World.cell?_of_block (hR2 wr.heap.size (by omega) (by (try dsimp only); omega))).trans (by repeat (first | with_reducible exact q41 | with_reducible refine cell_alloc ?_ _ | with_reducible refine cell_drew ?_)))
            | (refine step_app_named (S := fun b => (((wm.heap.size ≤ b ∧ b < wr.heap.size) ∨ (n1 ≤ b ∧ b < w1.heap.size)) ∨ (n2 ≤ b ∧ b < w2.heap.size))) (xs := X2) (v := .slice e2 m2 c2) (R := fun _ => True) slz_string.slt rfl (.tmp 26) (.tmp 27) rfl (ys := [⟨#[61, 61, 61]⟩]) rfl ?_ rfl rfl ?_ ?_ ?_ ?_; (repeat (first | with_reducible exact hF2 | with_reducible refine FS.alloc ?_ _ | with_reducible refine FS.drew ?_)); (refine LitAt.slice (te := 9) (s := ⟨#[61, 61, 61]⟩) ?_ (by decide); repeat (first | ((with_reducible refine LitAt.at 9 _ ?_); focus (first | rfl | (simp; done) | omega | (simp; omega))) | (with_reducible refine LitAt.drew ?_) | (with_reducible refine LitAt.alloc ?_ _) | (with_reducible refine LitAt.rest hR2 (by first | omega | (simp; omega)) (by (try dsimp only); omega) ?_) | (with_reducible refine LitAt.rest hR1 (by first | omega | (simp; omega)) (by (try dsimp only); omega) ?_))); (first | omega | (simp; omega)); (unfold maxLen; (first | omega | (simp; omega))); intro e3 c3 m3 n3 X3 w3 HX3 hl3 hn3 hN3 hs3 hF3 hR3 hB3; (try simp at hn3); (try simp at hN3); (try simp at hl3); have hb3 : Below wm.heap.size wm w3 := Below.trans (by repeat (first | with_reducible exact hb2 | with_reducible refine Below.drew ?_ | with_reducible refine Below.alloc ?_ (by first | omega | (simp; omega) | (simp; done)) _)) (hB3 wm.heap.size (by omega) (fun b (hb : (((wm.heap.size ≤ b ∧ b < wr.heap.size) ∨ (n1 ≤ b ∧ b < w1.heap.size)) ∨ (n2 ≤ b ∧ b < w2.heap.size))) _ => by omega)); have hT3 : IsSlice (fun b => b < wm.heap.size) w3 b4 d4 pp.two := IsSlice.frame (S := fun b => b < wm.heap.size) (fun b (hb : b < wm.heap.size) _ => ⟨hR3 b (by omega) (by intro (h : (((wm.heap.size ≤ b ∧ b < wr.heap.size) ∨ (n1 ≤ b ∧ b < w1.heap.size)) ∨ (n2 ≤ b ∧ b < w2.heap.size))); omega), hb⟩) (by repeat (first | with_reducible exact hT2 | with_reducible refine IsSlice.drew ?_ | refine IsSlice.alloc ?_ _)); have q33 : w3.cell? ⟨wr.heap.size, 3, none⟩ = some (.slice b3 pp.one.length d3) := (World.cell?_of_block (hR3 wr.heap.size (by omega) (by (try dsimp only); omega))).trans (by repeat (first | with_reducible exact q32 | with_reducible refine cell_alloc ?_ _ | with_reducible refine cell_drew ?_)); have q43 : w3.cell? ⟨wr.heap.size, 4, none⟩ = some (.slice b4 pp.two.length d4) := (World.cell?_of_block (hR3 wr.heap.size (by omega) (by (try dsimp only); omega))).trans (by repeat (first | with_reducible exact q42 | with_reducible refine cell_alloc ?_ _ | with_reducible refine cell_drew ?_)))
            | (refine step_app_named (S := fun b => ((((wm.heap.size ≤ b ∧ b < wr.heap.size) ∨ (n1 ≤ b ∧ b < w1.heap.size)) ∨ (n2 ≤ b ∧ b < w2.heap.size)) ∨ (n3 ≤ b ∧ b < w3.heap.size))) (xs := X3) (v := .slice e3 m3 c3) (R := fun b => b < wm.heap.size) slz_string.slt rfl (.tmp 28) (.tmp 30) rfl (ys := pp.two) rfl ?_ rfl rfl ?_ ?_ ?_ ?_; (repeat (first | with_reducible exact hF3 | with_reducible refine FS.alloc ?_ _ | with_reducible refine FS.drew ?_)); (repeat (first | with_reducible exact hT3 | refine IsSlice.alloc ?_ _)); (first | omega | (simp; omega)); (unfold maxLen; (first | omega | (simp; omega))); intro e4 c4 m4 n4 X4 w4 HX4 hl4 hn4 hN4 hs4 hF4 hR4 hB4; (try simp at hn4); (try simp at hN4); (try simp at hl4); have hb4 : Below wm.heap.size wm w4 := Below.trans (by repeat (first | with_reducible exact hb3 | with_reducible refine Below.drew ?_ | with_reducible refine Below.alloc ?_ (by first | omega | (simp; omega) | (simp; done)) _)) (hB4 wm.heap.size (by omega) (fun b (hb : ((((wm.heap.size ≤ b ∧ b < wr.heap.size) ∨ (n1 ≤ b ∧ b < w1.heap.size)) ∨ (n2 ≤ b ∧ b < w2.heap.size)) ∨ (n3 ≤ b ∧ b < w3.heap.size))) _ => by omega)); have q34 : w4.cell? ⟨wr.heap.size, 3, none⟩ = some (.slice b3 pp.one.length d3) := (World.cell?_of_block (hR4 wr.heap.size (by omega) (by (try dsimp only); omega))).trans (by repeat (first | with_reducible exact q33 | with_reducible refine cell_alloc ?_ _ | with_reducible refine cell_drew ?_)); have q44 : w4.cell? ⟨wr.heap.size, 4, none⟩ = some (.slice b4 pp.two.length d4) := (World.cell?_of_block (hR4 wr.heap.size (by omega) (by (try dsimp only); omega))).trans (by repeat (first | with_reducible exact q43 | with_reducible refine cell_alloc ?_ _ | with_reducible refine cell_drew ?_)))
            | (refine step_app_named (S := fun b => (((((wm.heap.size ≤ b ∧ b < wr.heap.size) ∨ (n1 ≤ b ∧ b < w1.heap.size)) ∨ (n2 ≤ b ∧ b < w2.heap.size)) ∨ (n3 ≤ b ∧ b < w3.heap.size)) ∨ (n4 ≤ b ∧ b < w4.heap.size))) (xs := X4) (v := .slice e4 m4 c4) (R := fun _ => True) slz_string.slt rfl (.tmp 31) (.tmp 32) rfl (ys := [⟨#[62, 62, 62]⟩]) rfl ?_ rfl rfl ?_ ?_ ?_ ?_; (repeat (first | with_reducible exact hF4 | with_reducible refine FS.alloc ?_ _ | with_reducible refine FS.drew ?_)); (refine LitAt.slice (te := 9) (s := ⟨#[62, 62, 62]⟩) ?_ (by decide); repeat (first | ((with_reducible refine LitAt.at 9 _ ?_); focus (first | rfl | (simp; done) | omega | (simp; omega))) | (with_reducible refine LitAt.drew ?_) | (with_reducible refine LitAt.alloc ?_ _) | (with_reducible refine LitAt.rest hR4 (by first | omega | (simp; omega)) (by (try dsimp only); omega) ?_) | (with_reducible refine LitAt.rest hR3 (by first | omega | (simp; omega)) (by (try dsimp only); omega) ?_) | (with_reducible refine LitAt.rest hR2 (by first | omega | (simp; omega)) (by (try dsimp only); omega) ?_) | (with_reducible refine LitAt.rest hR1 (by first | omega | (simp; omega)) (by (try dsimp only); omega) ?_))); (first | omega | (simp; omega)); (unfold maxLen; (first | omega | (simp; omega))); intro e5 c5 m5 n5 X5 w5 HX5 hl5 hn5 hN5 hs5 hF5 hR5 hB5; (try simp at hn5); (try simp at hN5); (try simp at hl5); have hb5 : Below wm.heap.size wm w5 := Below.trans (by repeat (first | with_reducible exact hb4 | with_reducible refine Below.drew ?_ | with_reducible refine Below.alloc ?_ (by first | omega | (simp; omega) | (simp; done)) _)) (hB5 wm.heap.size (by omega) (fun b (hb : (((((wm.heap.size ≤ b ∧ b < wr.heap.size) ∨ (n1 ≤ b ∧ b < w1.heap.size)) ∨ (n2 ≤ b ∧ b < w2.heap.size)) ∨ (n3 ≤ b ∧ b < w3.heap.size)) ∨ (n4 ≤ b ∧ b < w4.heap.size))) _ => by omega)); have q35 : w5.cell? ⟨wr.heap.size, 3, none⟩ = some (.slice b3 pp.one.length d3) := (World.cell?_of_block (hR5 wr.heap.size (by omega) (by (try dsimp only); omega))).trans (by repeat (first | with_reducible exact q34 | with_reducible refine cell_alloc ?_ _ | with_reducible refine cell_drew ?_)); have q45 : w5.cell? ⟨wr.heap.size, 4, none⟩ = some (.slice b4 pp.two.length d4) := (World.cell?_of_block (hR5 wr.heap.size (by omega) (by (try dsimp only); omega))).trans (by repeat (first | with_reducible exact q44 | with_reducible refine cell_alloc ?_ _ | with_reducible refine cell_drew ?_))))
        all_goals
          have hFin : Fresh wm.heap.size w5.heap.size w5 [.slice e5 m5 c5] X5 := hF5.fresh (fun b (hb : ((((((wm.heap.size ≤ b ∧ b < wr.heap.size) ∨ (n1 ≤ b ∧ b < w1.heap.size)) ∨ (n2 ≤ b ∧ b < w2.heap.size)) ∨ (n3 ≤ b ∧ b < w3.heap.size)) ∨ (n4 ≤ b ∧ b < w4.heap.size)) ∨ (n5 ≤ b ∧ b < w5.heap.size))) hl => by omega)
          have hE : Hid (X5 = ol ++ ((((([⟨#[60, 60, 60]⟩] ++ pp.one) ++ [⟨#[61, 61, 61]⟩]) ++ pp.two) ++ [⟨#[62, 62, 62]⟩]) : List ByteArray)) := by
            show _ = _
            rw [HX5.out, HX4.out, HX3.out, HX2.out, HX1.out]
            simp only [List.append_assoc]
          have hl9 : X5.length ≤ 121 * (k + 1) := by omega
          clear hF1 hF2 hF3 hF4 hF5 hR1 hR2 hR3 hR4 hR5 hB1 hB2 hB3 hB4 hB5 HX1 HX2 HX3 HX4 HX5 hb1 hb2 hb3 hb4 hO1 hT1 hT2 hT3 hO0 hT0 hF0
          go_wp2
          go_roundw
          case rel => exact ⟨⟨k + 1, X5, by omega, by go_num, hFin, hl9, by show _ = _; rw [HN.out, hE.out]⟩, hb5⟩
          case measure => simp [intOf]; omega
    · have HE := Lib.hid (showF_end HA.out hlt)
      go_wp2
      go_ret
      exact ⟨_, rfl, by rw [HD.out, HE.out]; exact hF.mono hszm (Nat.le_refl _), hbm.trans (hb.mono hszm)⟩
end Go.Proofs.Ytlpfoekbccbhlaa
