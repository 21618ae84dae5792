/-
  Walks: lists of commits, as the program has them.
-/
import Derived.Test.YtmblockojnaffaaDoorVK
import Derived.Test.YtmblockojnaffaaDoorWRepo
set_option linter.unusedVariables false
namespace Go.Proofs.YtmblockojnaffaaDoor
open Go.RowKit Go.Vc
open Go.Vc.Rep (rd)
open Go.Vc.Own (own)

set_option maxHeartbeats 4000000 in
theorem listOf_any {S : Nat → Prop} (v : Value) (ms : List Bool) (w : World) (hv : rd S w [v] ms) (hl : ms.length ≤ 1000) :
    Calls Tryd.prog 65 #[v] w fun e w' => ∃ v', e = .returned v' ∧ Fresh w.heap.size w'.heap.size w' [v'] (idxs ms 0) ∧ Below w.heap.size w w' := by
  obtain ⟨a, cap, rfl, hs⟩ := rd_slice_elim (Rep.lt hv)
  have hle := hs.le
  go_enter Tryd.func65, Tryd.ntmps65
  go_wp2
  go_loopw [3, 8] (fun out i wr => (∃ (k : Nat) (ol : List Int), k ≤ ms.length ∧ i = .int .i64 k ∧ ol.length ≤ k ∧ Fresh w.heap.size wr.heap.size wr [out] ol ∧ Hid (idxs ms 0 = ol ++ idxs (ms.drop k) k)) ∧ Below w.heap.size w wr) (fun _ i _ => ms.length - (intOf i).toNat)
  case atStart => exact ⟨⟨0, [], by omega, rfl, by simp, Fresh.nil _ _ _ (by decide), rfl⟩, Below.refl _ _⟩
  case round =>
    obtain ⟨⟨k, ol, hk, rfl, hol, hF, HA⟩, hb⟩ := hrel
    obtain ⟨a2, c2, rfl, _⟩ := hF.shape
    have hsz := hb.size
    by_cases hlt : k < ms.length
    · obtain ⟨g, off, rfl, hc⟩ := (hs.keep hb).bool hlt
      cases hm : ms[k] with
      | true =>
        have HN := Lib.hid (idxs_true HA.out hlt hm)
        rw [hm] at hc
        clear hm
        have hi0 : I64 ((k : Nat) : Int) := i64_nat (by omega)
        go_wp2_with (at_builtin; go_must (refine wpList_app_leaf slz_int.slt rfl (.tmp 14) (.tmp 16) rfl rfl (hF.alloc _) (by simp; omega) rfl rfl (lit_ints [(k : Int)] (heap_alloc_new _ _) (by simpa using hi0) (by unfold maxLen; simp)) (by simp; omega) (by unfold maxLen; simp; omega) ?_); intro a5 c5 w5 hG5)
        go_roundw
        case rel => exact ⟨⟨k + 1, ol ++ [(k : Int)], by omega, by go_num, by simp; omega, by have := hG5.fresh; simpa using this, HN.out⟩, (hb.alloc hsz _).trans hG5.below⟩
        case measure => simp [intOf] <;> omega
      | false =>
        have HN := Lib.hid (idxs_false HA.out hlt hm)
        rw [hm] at hc
        clear hm
        go_wp2
        go_roundw
        case rel => exact ⟨⟨k + 1, ol, by omega, by go_num, by omega, hF, HN.out⟩, hb⟩
        case measure => simp [intOf] <;> omega
    · have HN := Lib.hid (idxs_end HA.out hlt)
      go_wp2
      go_ret
      exact ⟨_, rfl, by rw [HN.out]; exact hF, hb⟩

set_option maxHeartbeats 4000000 in
set_option maxRecDepth 100000 in
theorem are_is {S T U : Nat → Prop} (v0 v1 u : Value) (r : Repo) (xs : List Int) (w : World) (h0 : rd S w [v0] r.commits) (h1 : rd T w [v1] r.heads) (hu : rd U w [u] xs) (hS : shortR r) (hM : ML w) {b : Bool} (h : (repoB r && anyB r.commits.length xs) = b) :
    Calls Tryd.prog 80 #[.agg #[v0, v1], u] w fun e w' => e = .returned (.bool b) ∧ Below w.heap.size w w' := by
  subst h
  obtain ⟨a, cap, rfl, hs⟩ := rd_slice_elim (Rep.lt h0)
  obtain ⟨a1, c1, rfl, hs1⟩ := rd_slice_elim (Rep.lt h1)
  obtain ⟨a2, c2, rfl, ht⟩ := rd_slice_elim (Rep.lt hu)
  have hle := ht.le
  have hB0 : Below w.heap.size w (w.alloc (.cells #[.slice a r.commits.length cap, .slice a1 r.heads.length c1] 32)) := ((Below.refl _ _).alloc (by simp <;> omega) _)
  have q0 : (w.alloc (.cells #[.slice a r.commits.length cap, .slice a1 r.heads.length c1] 32)).cell? ⟨w.heap.size, 0, none⟩ = some (.slice a r.commits.length cap) := by rw [cell_of_row _ _ 0 _ _ (0, 0) (heap_alloc_new _ _)]; rfl
  have q1 : (w.alloc (.cells #[.slice a r.commits.length cap, .slice a1 r.heads.length c1] 32)).cell? ⟨w.heap.size, 1, none⟩ = some (.slice a1 r.heads.length c1) := by rw [cell_of_row _ _ 1 _ _ (0, 0) (heap_alloc_new _ _)]; rfl
  cases hr : repoB r with
  | false =>
    go_enter Tryd.func80, Tryd.ntmps80
    go_wp2_with fail
    refine (repoOk_is _ _ r _ (hs.keep hB0).rd (hs1.keep hB0).rd hS (hM.keep hB0) hr).mono ?_
    rintro e w1 ⟨rfl, hb1⟩
    go_wp2
    go_ret
    exact ⟨rfl, hB0.trans (hb1.mono hB0.size)⟩
  | true =>
    go_enter Tryd.func80, Tryd.ntmps80
    go_wp2_with fail
    refine (repoOk_is _ _ r _ (hs.keep hB0).rd (hs1.keep hB0).rd hS (hM.keep hB0) hr).mono ?_
    rintro e w1 ⟨rfl, hb1⟩
    have q0 := keepc q0 hb1
    have q1 := keepc q1 hb1
    have HB := hB0.trans (hb1.mono hB0.size)
    clear hb1 hB0 hr
    go_wp2
    go_loopw [12] (fun i wr => (∃ k : Nat, k ≤ xs.length ∧ i = .int .i64 k ∧ Hid (anyB r.commits.length xs = anyB r.commits.length (xs.drop k))) ∧ Below w1.heap.size w1 wr) (fun i _ => xs.length - (intOf i).toNat)
    case atStart => exact ⟨⟨0, by omega, rfl, rfl⟩, Below.refl _ _⟩
    case round =>
      obtain ⟨⟨k, hk, rfl, HA⟩, hbr⟩ := hrel
      have hb := HB.trans (hbr.mono HB.size)
      have q0r := keepc q0 hbr
      have q1r := keepc q1 hbr
      by_cases hlt : k < xs.length
      · obtain ⟨g, off, rfl, hc, _⟩ := (ht.keep hb).int hlt
        cases hw : withinB xs[k] 0 ((r.commits.length : Int) - 1) with
        | false =>
          have HN := Lib.hid (show anyB r.commits.length xs = false from all_bad HA.out hlt hw)
          go_wp2_with fail
          refine (exists_is _ _ r.commits _ _ (hs.keep hb).rd hw).mono ?_
          rintro e w2 ⟨rfl, hb2⟩
          go_wp2
          go_ret
          exact ⟨ret_bool (by rw [HN.out, Bool.and_false]), hb.trans (hb2.mono hb.size)⟩
        | true =>
          have HN := Lib.hid (show anyB r.commits.length xs = anyB r.commits.length (xs.drop (k + 1)) from all_next HA.out hlt hw)
          go_wp2_with fail
          refine (exists_is _ _ r.commits _ _ (hs.keep hb).rd hw).mono ?_
          rintro e w2 ⟨rfl, hb2⟩
          go_wp2
          go_roundw
          case rel => exact ⟨⟨k + 1, by omega, by go_num, HN.out⟩, hbr.trans (hb2.mono hbr.size)⟩
          case measure => simp [intOf] <;> omega
      · have HN := Lib.hid (show anyB r.commits.length xs = true from all_end HA.out hlt)
        go_wp2
        go_ret
        exact ⟨ret_bool (by rw [HN.out, Bool.and_true]), hb⟩

set_option maxHeartbeats 4000000 in
set_option maxRecDepth 100000 in
theorem areSuspect_is {S T U : Nat → Prop} (v0 v1 u : Value) (r : Repo) (xs : List Int) (at_ : Int) (w : World) (h0 : rd S w [v0] r.commits) (h1 : rd T w [v1] r.heads) (hu : rd U w [u] xs) (hS : shortR r) (hM : ML w) {b : Bool} (h : suspB r xs at_ = b) :
    Calls Tryd.prog 59 #[.agg #[v0, v1], u, .int .i64 at_] w fun e w' => e = .returned (.bool b) ∧ Below w.heap.size w w' := by
  subst h
  obtain ⟨a, cap, rfl, hs⟩ := rd_slice_elim (Rep.lt h0)
  obtain ⟨a1, c1, rfl, hs1⟩ := rd_slice_elim (Rep.lt h1)
  obtain ⟨a2, c2, rfl, ht⟩ := rd_slice_elim (Rep.lt hu)
  have hle := ht.le
  have hB0 : Below w.heap.size w (w.alloc (.cells #[.slice a r.commits.length cap, .slice a1 r.heads.length c1] 32)) := ((Below.refl _ _).alloc (by simp <;> omega) _)
  have q0 : (w.alloc (.cells #[.slice a r.commits.length cap, .slice a1 r.heads.length c1] 32)).cell? ⟨w.heap.size, 0, none⟩ = some (.slice a r.commits.length cap) := by rw [cell_of_row _ _ 0 _ _ (0, 0) (heap_alloc_new _ _)]; rfl
  have q1 : (w.alloc (.cells #[.slice a r.commits.length cap, .slice a1 r.heads.length c1] 32)).cell? ⟨w.heap.size, 1, none⟩ = some (.slice a1 r.heads.length c1) := by rw [cell_of_row _ _ 1 _ _ (0, 0) (heap_alloc_new _ _)]; rfl
  have HQ : Hid (suspB r xs at_ = ((repoB r && anyB r.commits.length xs) && decide (xs.length ≤ 16) && withinB at_ 0 ((r.commits.length : Int) - 1))) := rfl
  cases hr : (repoB r && anyB r.commits.length xs) with
  | false =>
    rw [hr] at HQ
    go_enter Tryd.func59, Tryd.ntmps59
    go_wp2_with fail
    refine (are_is _ _ _ r xs _ (hs.keep hB0).rd (hs1.keep hB0).rd (ht.keep hB0).rd hS (hM.keep hB0) hr).mono ?_
    rintro e w1 ⟨rfl, hb1⟩
    go_wp2
    go_ret
    exact ⟨ret_bool (by rw [HQ.out]; rfl), hB0.trans (hb1.mono hB0.size)⟩
  | true =>
    rw [hr] at HQ
    by_cases h16 : xs.length ≤ 16
    · have d16 : decide ((xs.length : Int) ≤ 16) = true := decide_eq_true (by omega)
      have e16 : decide (xs.length ≤ 16) = true := decide_eq_true h16
      rw [e16] at HQ
      clear e16
      cases hw : withinB at_ 0 ((r.commits.length : Int) - 1) with
      | false =>
        rw [hw] at HQ
        go_enter Tryd.func59, Tryd.ntmps59
        go_wp2_with fail
        refine (are_is _ _ _ r xs _ (hs.keep hB0).rd (hs1.keep hB0).rd (ht.keep hB0).rd hS (hM.keep hB0) hr).mono ?_
        rintro e w1 ⟨rfl, hb1⟩
        have q0 := keepc q0 hb1
        have q1 := keepc q1 hb1
        have HB := hB0.trans (hb1.mono hB0.size)
        go_wp2_with fail
        refine (exists_is _ _ r.commits _ _ (hs.keep HB).rd hw).mono ?_
        rintro e w2 ⟨rfl, hb2⟩
        go_wp2
        go_ret
        exact ⟨ret_bool (by rw [HQ.out]; rfl), HB.trans (hb2.mono HB.size)⟩
      | true =>
        rw [hw] at HQ
        go_enter Tryd.func59, Tryd.ntmps59
        go_wp2_with fail
        refine (are_is _ _ _ r xs _ (hs.keep hB0).rd (hs1.keep hB0).rd (ht.keep hB0).rd hS (hM.keep hB0) hr).mono ?_
        rintro e w1 ⟨rfl, hb1⟩
        have q0 := keepc q0 hb1
        have q1 := keepc q1 hb1
        have HB := hB0.trans (hb1.mono hB0.size)
        go_wp2_with fail
        refine (exists_is _ _ r.commits _ _ (hs.keep HB).rd hw).mono ?_
        rintro e w2 ⟨rfl, hb2⟩
        go_wp2
        go_ret
        exact ⟨ret_bool (by rw [HQ.out]; rfl), HB.trans (hb2.mono HB.size)⟩
    · have d16 : decide ((xs.length : Int) ≤ 16) = false := decide_eq_false (by omega)
      have e16 : decide (xs.length ≤ 16) = false := decide_eq_false h16
      rw [e16] at HQ
      clear e16
      go_enter Tryd.func59, Tryd.ntmps59
      go_wp2_with fail
      refine (are_is _ _ _ r xs _ (hs.keep hB0).rd (hs1.keep hB0).rd (ht.keep hB0).rd hS (hM.keep hB0) hr).mono ?_
      rintro e w1 ⟨rfl, hb1⟩
      go_wp2
      go_ret
      exact ⟨ret_bool (by rw [HQ.out]; rfl), hB0.trans (hb1.mono hB0.size)⟩

set_option maxHeartbeats 8000000 in
set_option maxRecDepth 100000 in
theorem since_any {S U : Nat → Prop} (v0 v1 u : Value) (cs : List Commit) (at_ : Int) (xs : List Int) (w : World) (h0 : rd S w [v0] cs) (hu : rd U w [u] xs) (hP : parOk cs) (hn : cs.length ≤ 16) (hat : 0 ≤ at_ ∧ at_ < (cs.length : Int)) (hx : anyB cs.length xs = true) :
    Calls Tryd.prog 60 #[.agg #[v0, v1], .int .i64 at_, u] w fun e w' => ∃ v', e = .returned v' ∧ Fresh w.heap.size w'.heap.size w' [v'] (sinceT cs at_ xs) ∧ Below w.heap.size w w' := by
  obtain ⟨a, cap, rfl, hs⟩ := rd_slice_elim (Rep.lt h0)
  obtain ⟨a2, c2, rfl, ht⟩ := rd_slice_elim (Rep.lt hu)
  have hle := ht.le
  have hcn : 0 < cs.length := by omega
  have hB0 : Below w.heap.size w (w.alloc (.cells #[.slice a cs.length cap, v1] 32)) := ((Below.refl _ _).alloc (by simp <;> omega) _)
  have q0 : (w.alloc (.cells #[.slice a cs.length cap, v1] 32)).cell? ⟨w.heap.size, 0, none⟩ = some (.slice a cs.length cap) := by rw [cell_of_row _ _ 0 _ _ (0, 0) (heap_alloc_new _ _)]; rfl
  have q1 : (w.alloc (.cells #[.slice a cs.length cap, v1] 32)).cell? ⟨w.heap.size, 1, none⟩ = some v1 := by rw [cell_of_row _ _ 1 _ _ (0, 0) (heap_alloc_new _ _)]; rfl
  go_enter Tryd.func60, Tryd.ntmps60
  go_wp2_with fail
  refine (ancestors_any _ _ cs at_ _ (hs.keep hB0).rd hP hn hat).mono ?_
  rintro e w1 ⟨g, rfl, hF, hb1⟩
  have q0 := keepc q0 hb1
  have q1 := keepc q1 hb1
  have hB1 := hB0.trans (hb1.mono hB0.size)
  obtain ⟨g', hgg, hg1, hg2⟩ := hF.addr (by rw [anc_len]; exact hcn)
  obtain rfl : g = g' := by simpa using hgg
  have hgs : w.heap.size < g := by simp at hg1; omega
  have hal := anc_len cs at_
  obtain ⟨ms0, hms⟩ : ∃ ms, ms = anc cs at_ := ⟨_, rfl⟩
  have HS : Hid (sinceT cs at_ xs = idxs (lessAll cs ms0 xs) 0) := by show _ = _; rw [hms]; rfl
  rw [← hms] at hF hal
  have hF := hF.one
  clear hms hgg hg1 hb1 hB0
  go_wp2
  go_loopw [17] (fun i wr => (∃ (k : Nat) (ms : List Bool), k ≤ xs.length ∧ i = .int .i64 k ∧ ms.length = cs.length ∧ Fresh g (g + 1) wr [.slice (some ⟨g, 0, none⟩) cs.length cs.length] ms ∧ wr.cell? ⟨w.heap.size, 0, none⟩ = some (.slice a cs.length cap) ∧ wr.cell? ⟨w.heap.size, 1, none⟩ = some v1 ∧ g < wr.heap.size ∧ Hid (lessAll cs ms0 xs = lessAll cs ms (xs.drop k))) ∧ Below w.heap.size w wr) (fun i _ => xs.length - (intOf i).toNat)
  case atStart => exact ⟨⟨0, ms0, by omega, rfl, hal, hF, q0, q1, hg2, rfl⟩, hB1⟩
  case round =>
    clear hF q0 q1 hg2 hB1
    obtain ⟨⟨k, ms, hk, rfl, hml, hF, hq0, hq1, hgr, HA⟩, hb⟩ := hrel
    have hsz := hb.size
    by_cases hlt : k < xs.length
    · have hok := any_at hx hlt
      obtain ⟨g1, off1, rfl, hc, _⟩ := (ht.keep hb).int hlt
      have HN := Lib.hid (lessAll_next HA.out hlt)
      go_wp2_with fail
      refine (ancestors_any _ _ cs _ _ (hs.keep hb).rd hP hn hok).mono ?_
      rintro e w3 ⟨g3, rfl, hF3, hb3⟩
      have hq0 := keepc hq0 hb3
      have hq1 := keepc hq1 hb3
      have hF := hF.belowm (by omega) hb3
      have hB3 := hb.trans (hb3.mono hsz)
      have hs3 := hb3.size
      have ha3 := anc_len cs xs[k]
      have hG : Fresh wr.heap.size w3.heap.size w3 [.slice (some ⟨g3, 0, none⟩) cs.length cs.length] (anc cs xs[k]) := hF3
      go_wp2_with fail
      refine (listOf_any _ _ _ hG.rd (by omega)).mono ?_
      rintro e w4 ⟨v4, rfl, hF4, hb4⟩
      have hq0 := keepc hq0 hb4
      have hq1 := keepc hq1 hb4
      have hF := hF.belowm (by omega) hb4
      have hB4 := hB3.trans (hb4.mono hB3.size)
      have hs4 := hb4.size
      obtain ⟨a4, c4, rfl, ht4⟩ := hF4.shape
      have hl4 : (idxs (anc cs xs[k]) 0).length ≤ 16 := by have := idxs_len (anc cs xs[k]) 0; omega
      have hpn : ∀ m (hm : m < (idxs (anc cs xs[k]) 0).length), ∃ p : Nat, (idxs (anc cs xs[k]) 0)[m] = (p : Int) ∧ p < cs.length := by
        intro m hm
        have := allOf_mem (cs := cs) (at_ := xs[k]) (List.getElem_mem hm)
        exact ⟨_, (Int.toNat_of_nonneg this.1).symm, by omega⟩
      have HPN := Lib.hid hpn
      have HN : Hid (lessAll cs ms0 xs = lessAll cs (offAll ms (idxs (anc cs xs[k]) 0)) (xs.drop (k + 1))) := HN
      obtain ⟨ps, hps⟩ : ∃ ps, ps = idxs (anc cs xs[k]) 0 := ⟨_, rfl⟩
      rw [← hps] at HN HPN hl4
      have hFa : Fresh w3.heap.size w4.heap.size w4 [.slice a4 ps.length c4] ps := by rw [hps]; exact hF4
      have ht4 : IsSlice (fun b => w3.heap.size ≤ b) w4 a4 c4 ps := by rw [hps]; exact ht4
      rw [← hps]
      clear hps hpn hF4 hF3 hG hb3 hb4 hB3 hb
      go_wp2
      go_loopw [26] (fun i wq => (∃ (m : Nat) (ms' : List Bool), i = .int .i64 m ∧ m ≤ ps.length ∧ ms'.length = cs.length ∧ Fresh g (g + 1) wq [.slice (some ⟨g, 0, none⟩) cs.length cs.length] ms' ∧ wq.cell? ⟨w.heap.size, 0, none⟩ = some (.slice a cs.length cap) ∧ wq.cell? ⟨w.heap.size, 1, none⟩ = some v1 ∧ IsSlice (fun b => w3.heap.size ≤ b) wq a4 c4 ps ∧ Hid (offAll ms ps = offAll ms' (ps.drop m)) ∧ w4.heap.size ≤ wq.heap.size) ∧ Below w.heap.size w wq) (fun i _ => ps.length - (intOf i).toNat)
      case atStart => exact ⟨⟨0, ms, rfl, by omega, hml, hF, hq0, hq1, ht4, rfl, Nat.le_refl _⟩, hB4⟩
      case round =>
        clear hF hq0 hq1 ht4 hFa hB4
        obtain ⟨⟨m, ms', rfl, hm, hml', hF, hq0, hq1, ht4, HI, hs5⟩, hb⟩ := hrel
        by_cases hlm : m < ps.length
        · obtain ⟨p, hp, hpl⟩ := HPN.out m hlm
          obtain ⟨g5, off5, rfl, hd, _⟩ := ht4.int (i := m) hlm
          rw [hp] at hd
          have HN2 := Lib.hid (offAll_next HI.out hlm)
          rw [hp, Int.toNat_natCast] at HN2
          obtain ⟨⟨u, hu⟩, hfz, _, _⟩ := hF.there1 rfl (i := p) (by omega)
          have hF2 := (hF.set1 rfl (i := p) (by omega) (Fresh.leaf (m := g) (bool_own false wr)) (by omega)).one
          have hq0' : (wr.setCell ⟨g, p, none⟩ (.bool false)).cell? ⟨w.heap.size, 0, none⟩ = some (.slice a cs.length cap) := by
            rw [World.cell?_setCell_other _ _ _ _ (by intro e; injection e with e1 _ _; omega)]; exact hq0
          have hq1' : (wr.setCell ⟨g, p, none⟩ (.bool false)).cell? ⟨w.heap.size, 1, none⟩ = some v1 := by
            rw [World.cell?_setCell_other _ _ _ _ (by intro e; injection e with e1 _ _; omega)]; exact hq1
          have hB2 := hb.setCell (p := ⟨g, p, none⟩) (by show w.heap.size ≤ g; omega) (.bool false)
          have ht5 : IsSlice (fun b => w3.heap.size ≤ b) (wr.setCell ⟨g, p, none⟩ (.bool false)) (some ⟨g5, off5, none⟩) c4 ps := ht4.setCell (by show ¬ w3.heap.size ≤ g; omega)
          have hs6 : (wr.setCell ⟨g, p, none⟩ (.bool false)).heap.size = wr.heap.size := by simp
          clear hp
          go_wp2
          go_roundw
          case rel => exact ⟨⟨m + 1, ms'.set p false, by go_num, by omega, by simpa using hml', hF2, hq0', hq1', ht5, HN2.out, by omega⟩, hB2⟩
          case measure => simp [intOf] <;> omega
        · have HE := Lib.hid (offAll_end HI.out hlm)
          go_wp2
          go_roundw
          case rel => exact ⟨⟨k + 1, ms', by omega, by go_num, hml', hF, hq0, hq1, by omega, by show _ = _; rw [HN.out, HE.out]⟩, hb⟩
          case measure => simp [intOf] <;> omega
    · have HE := Lib.hid (lessAll_end HA.out hlt)
      go_wp2_with fail
      refine (listOf_any _ _ _ hF.rd (by omega)).mono ?_
      rintro e w4 ⟨v4, rfl, hF4, hb4⟩
      go_wp2
      go_ret
      exact ⟨_, rfl, by rw [HS.out, HE.out]; exact hF4.mono hsz (Nat.le_refl _), hb.trans (hb4.mono hsz)⟩
end Go.Proofs.YtmblockojnaffaaDoor
