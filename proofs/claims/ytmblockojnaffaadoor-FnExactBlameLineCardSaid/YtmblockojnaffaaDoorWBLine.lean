/-
  Walks: the commits since the one that wrote a line, as the program has them.
-/
import Derived.Test.YtmblockojnaffaaDoorWBlameO
import Derived.Test.YtmblockojnaffaaDoorWPlace
import Derived.Test.YtmblockojnaffaaDoorVK
set_option linter.unusedVariables false
namespace Go.Vc
open Go.RowKit
open Rep (rd)
open Own (own)
def lineG (cs : List Commit) (m : Nat) (a : Int) : List Int := if a < 0 then [] else lineF cs m a
theorem ownAll.takeL {α : Type} [Own α] {w : World} : ∀ {Fs : List (List Nat)} {cs : List (List Value)} {xs : List α}, ownAll w Fs cs xs → ∀ k, ownAll w (Fs.take k) (cs.take k) (xs.take k)
  | _, _, _, h, 0 => by simp only [List.take_zero]; trivial
  | [], [], [], _, k + 1 => by simp only [List.take_nil]; trivial
  | _ :: _, _ :: _, _ :: _, h, k + 1 => ⟨h.1, ownAll.takeL h.2 k⟩
  | [], [], _ :: _, h, _ + 1 => h.elim
  | [], _ :: _, [], h, _ + 1 => h.elim
  | [], _ :: _, _ :: _, h, _ + 1 => h.elim
  | _ :: _, [], [], h, _ + 1 => h.elim
  | _ :: _, [], _ :: _, h, _ + 1 => h.elim
  | _ :: _, _ :: _, [], h, _ + 1 => h.elim
theorem flatten_takeL {α : Type} {z : Nat} : ∀ {cs : List (List α)}, (∀ c ∈ cs, c.length = z) → ∀ k, (cs.take k).flatten = cs.flatten.take (k * z)
  | _, _, 0 => by simp
  | [], _, k + 1 => by simp
  | c :: cs, h, k + 1 => by
    have hc := h c (List.mem_cons_self ..)
    rw [List.take_succ_cons, List.flatten_cons, List.flatten_cons, flatten_takeL (fun c hc => h c (List.mem_cons_of_mem _ hc)) k]
    have e : (k + 1) * z = c.length + k * z := by rw [hc, Nat.add_mul]; omega
    rw [e, List.take_length_add_append]
/-- the first of an own slice -/
theorem Fresh.takeL {α : Type} [Own α] [Tid α] [Leaf α] {B m : Nat} {w : World} {a : Option Addr} {n cap k : Nat} {xs : List α} (h : Fresh B m w [.slice a n cap] xs) (hk : k ≤ xs.length) : Fresh B m w [.slice a k cap] (xs.take k) := by
  obtain ⟨F, ⟨v, cs, Fs, hv, hrow, rfl, hall, hz⟩, hn, hb⟩ := h
  simp at hv
  subst hv
  have hnil := ownAll_none _ _ _ hall
  have hnil2 := ownAll_none _ _ _ (hall.takeL k)
  have hl := hall.lens
  refine ⟨_, ⟨_, cs.take k, Fs.take k, rfl, ?_, rfl, hall.takeL k, hz⟩, ?_, ?_⟩
  · have hflat := flatten_takeL hl.2.2 k
    have hlen : (xs.take k).length = k := by simp; omega
    refine ⟨?_, ?_⟩
    · rw [hflat, List.length_take, hrow.1, hlen]
      exact Nat.min_eq_left (Nat.mul_le_mul_right _ hk)
    · rcases hrow.2 with ⟨e, hn0⟩ | ⟨g, cap', cur, e, hbg, hg, hnc, hcm, hcs, htake⟩
      · have hk0 : k = 0 := by omega
        subst hk0
        injection e with e1 e2 e3
        subst e1 e3
        exact .inl ⟨rfl, by simp⟩
      · injection e with e1 e2 e3
        subst e1 e3
        refine .inr ⟨g, _, cur, by rw [hlen], hbg, hg, by omega, hcm, hcs, ?_⟩
        rw [hflat, hlen, ← htake, List.take_take, Nat.min_eq_left (Nat.mul_le_mul_right _ hk)]
  · rw [hnil2, List.append_nil]
    rw [hnil, List.append_nil] at hn
    cases a with
    | none => simp [Value.ownBlock]
    | some ad => exact hn
  · intro b hbm
    rw [hnil2, List.append_nil] at hbm
    rw [hnil, List.append_nil] at hb
    cases a with
    | none => simp [Value.ownBlock] at hbm
    | some ad => exact hb b hbm
end Go.Vc
namespace Go.Proofs.YtmblockojnaffaaDoor
open Go.RowKit Go.Vc
open Go.Vc.Rep (rd)
open Go.Vc.Own (own)

theorem alloc_size1 (w : World) (o : Obj) : (w.alloc o).heap.size = w.heap.size + 1 := by simp
set_option maxHeartbeats 4000000 in
set_option maxRecDepth 100000 in
theorem line_any {S : Nat → Prop} (v0 v1 : Value) (cs : List Commit) (at_ : Int) (w : World) (h0 : rd S w [v0] cs) (hP : parOk cs) (hn : cs.length ≤ 16) (hat : 0 ≤ at_ ∧ at_ < (cs.length : Int)) :
    Calls Tryd.prog 98 #[.agg #[v0, v1], .int .i64 at_] w fun e w' => ∃ v', e = .returned v' ∧ Fresh w.heap.size w'.heap.size w' [v'] (lineF cs cs.length at_) ∧ Below w.heap.size w w' := by
  obtain ⟨a, cap, rfl, hs⟩ := rd_slice_elim (Rep.lt h0)
  have hB0 : Below w.heap.size w (w.alloc (.cells #[.slice a cs.length cap, v1] 32)) := ((Below.refl _ _).alloc (by simp <;> omega) _)
  have q0 : (w.alloc (.cells #[.slice a cs.length cap, v1] 32)).cell? ⟨w.heap.size, 0, none⟩ = some (.slice a cs.length cap) := by rw [cell_of_row _ _ 0 _ _ (0, 0) (heap_alloc_new _ _)]; rfl
  have q1 : (w.alloc (.cells #[.slice a cs.length cap, v1] 32)).cell? ⟨w.heap.size, 1, none⟩ = some v1 := by rw [cell_of_row _ _ 1 _ _ (0, 0) (heap_alloc_new _ _)]; rfl
  have hs1 : w.heap.size + 1 ≤ (w.alloc (.cells #[.slice a cs.length cap, v1] 32)).heap.size := by simp
  go_enter Tryd.func98, Tryd.ntmps98
  go_wp2
  go_loopw [1, 5] (fun at2 out wr => (∃ (m : Nat) (a' : Int) (ol : List Int), at2 = .int .i64 a' ∧ -1 ≤ a' ∧ a' < (cs.length : Int) ∧ a' < (m : Int) ∧ (ol.length : Int) + a' ≤ 16 ∧ Fresh (w.heap.size + 1) wr.heap.size wr [out] ol ∧ wr.cell? ⟨w.heap.size, 0, none⟩ = some (.slice a cs.length cap) ∧ wr.cell? ⟨w.heap.size, 1, none⟩ = some v1 ∧ w.heap.size + 1 ≤ wr.heap.size ∧ Hid (lineF cs cs.length at_ = ol ++ lineG cs m a')) ∧ Below w.heap.size w wr) (fun at2 _ _ => (intOf at2 + 1).toNat)
  case atStart => exact ⟨⟨cs.length, at_, [], rfl, by omega, hat.2, hat.2, by simp; omega, Fresh.nil _ _ _ (by decide), q0, q1, hs1, by show _ = _; unfold lineG; rw [if_neg (by omega)]; rfl⟩, hB0⟩
  case round =>
    clear q0 q1 hs1 hB0
    obtain ⟨⟨m, a', ol, rfl, ha0, ha1, ha2, hol, hF, q0, q1, hs1, HA⟩, hb⟩ := hrel
    obtain ⟨a3, c3, hv3, _⟩ := hF.shape
    subst hv3
    have hsz := hb.size
    by_cases hneg : a' < 0
    · have HN : Hid (lineF cs cs.length at_ = ol) := by show _ = _; rw [HA.out]; unfold lineG; rw [if_pos hneg, List.append_nil]
      have hd : decide ((0 : Int) ≤ a') = false := decide_eq_false (by omega)
      clear hneg
      go_wp2
      go_ret
      exact ⟨_, rfl, by rw [HN.out]; exact hF.mono (Nat.le_succ _) (Nat.le_refl _), hb⟩
    · have hd : decide ((0 : Int) ≤ a') = true := decide_eq_true (by omega)
      have hi64 : I64 a' := by unfold I64; omega
      obtain ⟨m', rfl⟩ : ∃ m', m = m' + 1 := ⟨m - 1, by omega⟩
      obtain ⟨p, hp⟩ : ∃ p, ((cs.getD a'.toNat noCommit).parents.head?).getD (-1) = p := ⟨_, rfl⟩
      have hpn : -1 ≤ p ∧ p < a' ∧ lineF cs (m' + 1) a' = [a'] ++ lineG cs m' p := by
        cases hq : (cs.getD a'.toNat noCommit).parents with
        | nil =>
          rw [hq] at hp
          have hp1 : p = -1 := by rw [← hp]; rfl
          subst hp1
          exact ⟨by omega, by omega, by rw [line_root hq]; rfl⟩
        | cons x xs =>
          rw [hq] at hp
          have hp1 : p = x := by rw [← hp]; rfl
          subst hp1
          have := par_first hP (by omega) ha1 hq
          exact ⟨by omega, by omega, by rw [line_step hq]; unfold lineG; rw [if_neg (by omega)]; rfl⟩
      have HN : Hid (lineF cs cs.length at_ = (ol ++ [a']) ++ lineG cs m' p) := by
        show _ = _
        rw [HA.out, List.append_assoc, ← hpn.2.2]
        unfold lineG
        rw [if_neg hneg]
      have HP := Lib.hid hp
      obtain ⟨hp0, hp1, _⟩ := hpn
      clear hneg hp
      go_wp2_with (at_builtin; go_must (refine wpList_app_leaf slz_int.slt rfl (.tmp 8) (.tmp 10) rfl rfl (hF.alloc _) (by simp; omega) rfl rfl (lit_ints [a'] (heap_alloc_new _ _) (by simpa using hi64) (by unfold maxLen; simp)) (by simp; omega) (by unfold maxLen; simp; omega) ?_); intro a5 c5 w5 hG5; have hF5 := hG5.fresh; have hb5 := (hb.alloc hsz (.cells #[.int .i64 a'] (Tid.tid Int))).trans (hG5.below.mono (Nat.le_succ _)); have q05 := (hG5.below.cell (p := ⟨w.heap.size, 0, none⟩) (Nat.lt_succ_self _)).trans (keepc q0 ((Below.refl _ _).alloc (Nat.le_refl _) _)); have q15 := (hG5.below.cell (p := ⟨w.heap.size, 1, none⟩) (Nat.lt_succ_self _)).trans (keepc q1 ((Below.refl _ _).alloc (Nat.le_refl _) _)); have hs5 := hG5.below.size; simp only [alloc_size1] at hs5)
      refine (first_is _ _ cs a' _ (hs.keep hb5).rd (by omega) ha1 HP.out).mono ?_
      rintro e w6 ⟨rfl, hb6⟩
      go_wp2
      go_roundw
      case rel => exact ⟨⟨m', p, ol ++ [a'], rfl, hp0, by omega, by omega, by simp; omega, by have := (hF5.below (Nat.le_refl _) hb6).now; simpa using this, keepc q05 hb6, keepc q15 hb6, by have := hb6.size; omega, HN.out⟩, hb5.trans (hb6.mono hb5.size)⟩
      case measure => simp [intOf] <;> omega

set_option maxHeartbeats 4000000 in
set_option maxRecDepth 100000 in
theorem implBlameLine {S T : Nat → Prop} (r : Repo) (v0 v1 : Value) (at_ : Int) (path : ByteArray) (line : Int) (w : World) (h0 : rd S w [v0] r.commits) (h1 : rd T w [v1] r.heads) (hi : I64 at_) (hz : path.size ≤ 1048576) (hi2 : I64 line) (hS : shortR r) (hM : ML w) :
    Calls Tryd.prog 50 #[.agg #[v0, v1], .int .i64 at_, .string path, .int .i64 line] w fun e w' => ∃ v', e = .returned v' ∧ Fresh w.heap.size w'.heap.size w' [v'] (blineT r at_ path line) ∧ Below w.heap.size w w' := by
  have h0 := Rep.lt h0
  have h1 := Rep.lt h1
  have hB0 : Below w.heap.size w (w.alloc (.cells #[v0, v1] 32)) := ((Below.refl _ _).alloc (by simp <;> omega) _)
  have q0 : (w.alloc (.cells #[v0, v1] 32)).cell? ⟨w.heap.size, 0, none⟩ = some v0 := by rw [cell_of_row _ _ 0 _ _ (0, 0) (heap_alloc_new _ _)]; rfl
  have q1 : (w.alloc (.cells #[v0, v1] 32)).cell? ⟨w.heap.size, 1, none⟩ = some v1 := by rw [cell_of_row _ _ 1 _ _ (0, 0) (heap_alloc_new _ _)]; rfl
  have HR : Hid (blineT r at_ path line = if withinB line 0 (((blameOf r at_ path).length : Int) - 1) = true then takeTo ((blameOf r at_ path).getD line.toNat 0) (lineF r.commits r.commits.length at_) else []) := rfl
  have HOF : Hid (blameOf r at_ path = if (repoB r && anyB r.commits.length [at_]) = true then (blameF r.commits path r.commits.length at_).getD [] else []) := rfl
  go_enter Tryd.func50, Tryd.ntmps50
  go_wp2_with fail
  refine (implBlameOf r _ _ at_ path _ (Rep.keep h0 hB0) (Rep.keep h1 hB0) hi hz hS (hM.keep hB0)).mono ?_
  rintro e w1 ⟨v1', rfl, hL, hb1⟩
  have q0a := keepc q0 hb1
  have q1a := keepc q1 hb1
  have HB := hB0.trans (hb1.mono hB0.size)
  have hl10 := blameOf_len r at_ path
  obtain ⟨l, hl⟩ : ∃ l, l = blameOf r at_ path := ⟨_, rfl⟩
  rw [← hl] at hL hl10 HR HOF
  obtain ⟨al, cl, hvl, hLs⟩ := hL.shape
  subst hvl
  have hLs := hLs.lt
  clear q0 q1 hB0 hL hb1 hl
  cases hw : withinB line 0 ((l.length : Int) - 1) with
  | false =>
    rw [hw] at HR
    go_wp2_with fail
    refine (within_is _ _ _ _ hw).mono ?_
    rintro e w3 ⟨rfl, rfl⟩
    go_wp2
    go_ret
    exact ⟨_, rfl, by rw [HR.out]; exact Fresh.nil _ _ _ (by decide), HB⟩
  | true =>
    rw [hw] at HR
    have hlw : 0 ≤ line ∧ line < (l.length : Int) := by
      simp only [withinB, Bool.and_eq_true, decide_eq_true_eq] at hw
      omega
    have hok : (repoB r && anyB r.commits.length [at_]) = true := by
      cases hq : (repoB r && anyB r.commits.length [at_]) with
      | true => rfl
      | false =>
        have := HOF.out
        rw [hq] at this
        rw [this] at hlw
        simp at hlw; omega
    have HOF : Hid (l = (blameF r.commits path r.commits.length at_).getD []) := by show _ = _; rw [HOF.out, if_pos hok]
    have hr : repoB r = true := by rw [Bool.and_eq_true] at hok; exact hok.1
    have hat : 0 ≤ at_ ∧ at_ < (r.commits.length : Int) := by
      rw [Bool.and_eq_true] at hok
      exact any_at hok.2 (k := 0) (by simp)
    have hPar := repo_par hr
    have hfew := repo_le hr
    obtain ⟨x, rfl⟩ : ∃ x : Nat, line = (x : Int) := ⟨line.toNat, by omega⟩
    have hxl : x < l.length := by omega
    obtain ⟨g, off, hag, hc, _⟩ := hLs.int hxl
    subst hag
    obtain ⟨v, hv⟩ : ∃ v, v = l[x] := ⟨_, rfl⟩
    have hmem : v ∈ lineF r.commits r.commits.length at_ := by
      cases hbf : blameF r.commits path r.commits.length at_ with
      | none =>
        have := HOF.out
        rw [hbf] at this
        rw [this] at hxl
        simp at hxl
      | some l' =>
        have := HOF.out
        rw [hbf] at this
        have hll : l = l' := this
        exact blame_on hPar _ at_ l' x v hat.1 hat.2 hat.2 hbf (by rw [← hll, List.getElem?_eq_getElem hxl, hv])
    have HR2 : Hid (blineT r at_ path (x : Int) = takeTo v (lineF r.commits r.commits.length at_)) := by
      show _ = _
      rw [HR.out, hv]
      simp [List.getD, hxl]
    rw [← hv] at hc
    have hpl := place_le (lineF r.commits r.commits.length at_) v
    have hp0 : 0 ≤ place (lineF r.commits r.commits.length at_) v := placeF_mem hmem
    have HTK := Lib.hid (takeTo_place v (lineF r.commits r.commits.length at_) 0 hp0).1
    have hll := lineF_len r.commits r.commits.length at_
    obtain ⟨p, hp⟩ : ∃ p : Nat, place (lineF r.commits r.commits.length at_) v = (p : Int) := ⟨(place (lineF r.commits r.commits.length at_) v).toNat, by omega⟩
    have HTK : Hid (takeTo v (lineF r.commits r.commits.length at_) = (lineF r.commits r.commits.length at_).take (p + 1)) := by
      show _ = _
      rw [HTK.out]
      have e : placeF (lineF r.commits r.commits.length at_) 0 v = (p : Int) := hp
      rw [e, Int.toNat_natCast, Nat.sub_zero]
    rw [hp] at hpl
    have hplt : p < (lineF r.commits r.commits.length at_).length := by omega
    have HPP := Lib.hid hp
    clear hp hp0 hmem hv hw hok hr HOF
    go_wp2_with fail
    refine (within_is _ _ _ _ (show withinB (x : Int) 0 ((l.length : Int) - 1) = true by simp only [withinB, Bool.and_eq_true, decide_eq_true_eq]; omega)).mono ?_
    rintro e w3 ⟨rfl, rfl⟩
    go_wp2_with fail
    refine (line_any _ _ r.commits at_ _ (Rep.keep h0 HB) hPar hfew hat).mono ?_
    rintro e w4 ⟨v4, rfl, hA, hb4⟩
    have HB4 := HB.trans (hb4.mono HB.size)
    obtain ⟨la, hla⟩ : ∃ la, la = lineF r.commits r.commits.length at_ := ⟨_, rfl⟩
    rw [← hla] at hA HR2 HTK hll hpl hplt HPP
    obtain ⟨a4, c4, hv4, hAs⟩ := hA.shape
    subst hv4
    have hc4 := keepc hc hb4
    have hcap := hAs.1
    have hcm := hAs.2.1
    have hct := run_cut0 slz_int.slt a4 la.length c4 (p + 1) (by omega)
    clear hla hLs hc q0a q1a
    go_wp2_with fail
    refine (index_is _ la v _ hA.rd (by omega) HPP.out).mono ?_
    rintro e w5 ⟨rfl, rfl⟩
    have hnum : IntKind.i64.wrap ((p : Int) + 1) = ((p + 1 : Nat) : Int) := by rw [IntWalk.i64_in _ (by omega)]; omega
    go_wp2
    go_ret
    exact ⟨_, rfl, by rw [HR2.out, HTK.out]; exact (hA.takeL (k := p + 1) (by omega)).mono HB.size (Nat.le_refl _), HB4⟩
end Go.Proofs.YtmblockojnaffaaDoor
