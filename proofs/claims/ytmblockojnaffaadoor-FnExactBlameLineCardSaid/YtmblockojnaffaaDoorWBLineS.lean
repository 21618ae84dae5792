/-
  Walks: the commits since the one that wrote a line, as the reference has them.
-/
import Derived.Test.YtmblockojnaffaaDoorWBLine
set_option linter.unusedVariables false
namespace Go.Vc
theorem bline_hit {v : Int} {M ol : List Int} {cs : List Commit} {m : Nat} (H : M = ol ++ takeTo v (lineF cs (m + 1) v)) : M = ol ++ [v] := by
  rw [H]
  cases hq : (cs.getD v.toNat noCommit).parents with
  | nil => rw [line_root hq, takeTo_hit]
  | cons x xs => rw [line_step hq, takeTo_hit]
theorem bline_step {v a p : Int} {ps : List Int} {M ol : List Int} {cs : List Commit} {m : Nat} (H : M = ol ++ takeTo v (lineF cs (m + 1) a)) (hp : (cs.getD a.toNat noCommit).parents = p :: ps) (hne : ¬ a = v) : M = (ol ++ [a]) ++ takeTo v (lineF cs m p) := by
  rw [H, line_step hp, takeTo_step hne, List.append_assoc]; rfl
end Go.Vc
namespace Go.Proofs.YtmblockojnaffaaDoor
open Go.RowKit Go.Vc
open Go.Vc.Rep (rd)
open Go.Vc.Own (own)

set_option maxHeartbeats 16000000 in
set_option maxRecDepth 100000 in
theorem specBlameLine {S T : Nat → Prop} (r : Repo) (v0 v1 : Value) (at_ : Int) (path : ByteArray) (line : Int) (w : World) (h0 : rd S w [v0] r.commits) (h1 : rd T w [v1] r.heads) (hi : I64 at_) (hz : path.size ≤ 1048576) (hi2 : I64 line) (hS : shortR r) (hM : ML w) :
    Calls Tryd.prog 49 #[.agg #[v0, v1], .int .i64 at_, .string path, .int .i64 line] w fun e w' => ∃ v', e = .returned v' ∧ Fresh w.heap.size w'.heap.size w' [v'] (blineT r at_ path line) ∧ Below w.heap.size w w' := by
  have h0 := Rep.lt h0
  have h1 := Rep.lt h1
  obtain ⟨a, cap, rfl, hs⟩ := rd_slice_elim h0
  have hB0 : Below w.heap.size w ((w.alloc (.cells #[.slice a r.commits.length cap, v1] 32)).alloc (.cells #[] (Tid.tid Int))) := (((Below.refl _ _).alloc (by simp <;> omega) _).alloc (by simp <;> omega) _)
  have hbl := (Below.refl (w.alloc (.cells #[.slice a r.commits.length cap, v1] 32)).heap.size (w.alloc (.cells #[.slice a r.commits.length cap, v1] 32))).alloc (Nat.le_refl _) (.cells #[] (Tid.tid Int))
  have p0 : (w.alloc (.cells #[.slice a r.commits.length cap, v1] 32)).cell? ⟨w.heap.size, 0, none⟩ = some (.slice a r.commits.length cap) := by rw [cell_of_row _ _ 0 _ _ (0, 0) (heap_alloc_new _ _)]; rfl
  have p1 : (w.alloc (.cells #[.slice a r.commits.length cap, v1] 32)).cell? ⟨w.heap.size, 1, none⟩ = some v1 := by rw [cell_of_row _ _ 1 _ _ (0, 0) (heap_alloc_new _ _)]; rfl
  have q0 := keepc p0 hbl
  have q1 := keepc p1 hbl
  have hE := Fresh.empty (β := Int) Nat.one_pos (w.alloc (.cells #[.slice a r.commits.length cap, v1] 32)).heap.size (w.alloc (.cells #[.slice a r.commits.length cap, v1] 32)) (Nat.le_refl _)
  rw [show (w.alloc (.cells #[.slice a r.commits.length cap, v1] 32)).heap.size = w.heap.size + 1 by simp] at hE
  clear p0 p1 hbl
  have HR : Hid (blineT r at_ path line = if withinB line 0 (((blameOf r at_ path).length : Int) - 1) = true then takeTo ((blameOf r at_ path).getD line.toNat 0) (lineF r.commits r.commits.length at_) else []) := rfl
  have HOF : Hid (blameOf r at_ path = if (repoB r && anyB r.commits.length [at_]) = true then (blameF r.commits path r.commits.length at_).getD [] else []) := rfl
  go_enter Tryd.func49, Tryd.ntmps49
  go_wp2_with fail
  refine (specBlameOf r _ _ at_ path _ (Rep.keep h0 hB0) (Rep.keep h1 hB0) hi hz hS (hM.keep hB0)).mono ?_
  rintro e w1 ⟨v1', rfl, hL, hb1⟩
  have q0a := keepc q0 hb1
  have q1a := keepc q1 hb1
  have hE1 := (hE.below (Nat.le_refl _) hb1).now
  have hs1 : w.heap.size + 2 ≤ w1.heap.size := by have := hb1.size; simp at this; omega
  have HB := hB0.trans (hb1.mono hB0.size)
  have hl10 := blameOf_len r at_ path
  obtain ⟨l0, hl⟩ : ∃ l, l = blameOf r at_ path := ⟨_, rfl⟩
  rw [← hl] at hL hl10 HR HOF
  obtain ⟨al, cl, hvl, hLs⟩ := hL.shape
  subst hvl
  have hLs := hLs.lt
  clear q0 q1 hB0 hL hb1 hl hE
  cases hw : withinB line 0 ((l0.length : Int) - 1) with
  | false =>
    rw [hw] at HR
    go_wp2_with fail
    refine (l1In_is _ _ _ _ hw).mono ?_
    rintro e w3 ⟨rfl, rfl⟩
    go_wp2
    go_ret
    exact ⟨_, rfl, by rw [HR.out]; exact hE1.mono (Nat.le_succ _) (Nat.le_refl _), HB⟩
  | true =>
    rw [hw] at HR
    have hlw : 0 ≤ line ∧ line < (l0.length : Int) := by
      simp only [withinB, Bool.and_eq_true, decide_eq_true_eq] at hw
      omega
    have hok : (repoB r && anyB r.commits.length [at_]) = true := by
      cases hq : (repoB r && anyB r.commits.length [at_]) with
      | true => rfl
      | false =>
        have := HOF.out
        rw [hq] at this
        rw [this] at hlw
        simp at hlw; omega
    have hr : repoB r = true := by rw [Bool.and_eq_true] at hok; exact hok.1
    have hat : 0 ≤ at_ ∧ at_ < (r.commits.length : Int) := by
      rw [Bool.and_eq_true] at hok
      exact any_at hok.2 (k := 0) (by simp)
    have hPar := repo_par hr
    have hfew := repo_le hr
    have hTx := repo_texts hr
    obtain ⟨x0, hx0⟩ : ∃ x : Nat, line = (x : Int) := ⟨line.toNat, by omega⟩
    have hxl : x0 < l0.length := by omega
    obtain ⟨v, hv⟩ : ∃ v, v = l0[x0] := ⟨_, rfl⟩
    have hbf : blameF r.commits path r.commits.length at_ = some l0 := by
      have h2 := HOF.out
      rw [if_pos hok] at h2
      cases hbf : blameF r.commits path r.commits.length at_ with
      | none => rw [hbf] at h2; rw [h2] at hxl; simp at hxl
      | some l' => rw [hbf] at h2; rw [h2]; rfl
    have HR2 : Hid (blineT r at_ path line = takeTo v (lineF r.commits r.commits.length at_)) := by
      show _ = _
      rw [HR.out, hv, hx0]
      simp [List.getD, hxl]
    have hxv : l0[x0]? = some v := by rw [List.getElem?_eq_getElem hxl, hv]
    have HPA := Lib.hid hPar
    have HTX := Lib.hid hTx
    have HLEN := Lib.hid (show ∀ (i : Int) (x : List ByteArray), 0 ≤ i → i < (r.commits.length : Int) → getT (treeAtC r.commits i) path = some x → x.length ≤ 10 from fun i x hi0 hi1 hx => by
      obtain ⟨f, hf, _, rfl⟩ := getT_mem hx
      exact hTx i hi0 hi1 f hf)
    have hw2 : withinB (x0 : Int) 0 ((l0.length : Int) - 1) = true := by rw [← hx0]; exact hw
    subst hx0
    clear hw hok hr HOF HR hv hPar hTx hlw
    have hrl := hLs.rd
    obtain ⟨cs, hcs⟩ : ∃ cs, cs = r.commits := ⟨_, rfl⟩
    rw [← hcs] at hs q0a hat hfew hbf HR2 HPA HTX HLEN
    go_wp2_with fail
    refine (l1In_is _ _ _ _ hw2).mono ?_
    rintro e w3 ⟨rfl, rfl⟩
    rw [← hcs]
    clear hcs hw2
    go_wp2
    go_loopw [1, 3, 9, 10] (fun at2 ln out lst wr => (∃ (m : Nat) (a' : Int) (x : Nat) (ol l : List Int), at2 = .int .i64 a' ∧ 0 ≤ a' ∧ a' < (cs.length : Int) ∧ a' < (m : Int) ∧ ln = .int .i64 x ∧ l[x]? = some v ∧ blameF cs path cs.length a' = some l ∧ (ol.length : Int) + a' ≤ 16 ∧ Fresh (w.heap.size + 1) wr.heap.size wr [out] ol ∧ rd (fun b => b < wr.heap.size) wr [lst] l ∧ wr.cell? ⟨w.heap.size, 0, none⟩ = some (.slice a cs.length cap) ∧ wr.cell? ⟨w.heap.size, 1, none⟩ = some v1 ∧ w.heap.size + 2 ≤ wr.heap.size ∧ Hid (takeTo v (lineF cs cs.length at_) = ol ++ takeTo v (lineF cs m a'))) ∧ Below w.heap.size w wr) (fun at2 _ _ _ _ => (intOf at2).toNat)
    case atStart => exact ⟨⟨cs.length, at_, x0, [], l0, rfl, hat.1, hat.2, hat.2, rfl, hxv, hbf, by simp; omega, hE1, hrl, q0a, q1a, hs1, rfl⟩, HB⟩
    case round =>
      clear hE1 hrl q0a q1a hs1 HB hLs hbf hxv
      obtain ⟨⟨m, a', x, ol, l, rfl, ha0, ha1, ha2, rfl, hx, hbf, hol, hF, hrl, q0, q1, hs1, HA⟩, hb⟩ := hrel
      obtain ⟨a3, c3, hv3, _⟩ := hF.shape
      subst hv3
      obtain ⟨a4, c4, hv4, hLs⟩ := rd_slice_elim hrl
      subst hv4
      have hsz := hb.size
      have hi64 : I64 a' := by unfold I64; omega
      obtain ⟨hxl, hxv⟩ := List.getElem?_eq_some_iff.1 hx
      obtain ⟨gl, offl, hagl, hcl, _⟩ := hLs.int hxl
      subst hagl
      rw [hxv] at hcl
      obtain ⟨m', rfl⟩ : ∃ m', m = m' + 1 := ⟨m - 1, by omega⟩
      by_cases hav : a' = v
      · have HN : Hid (takeTo v (lineF cs cs.length at_) = ol ++ [a']) := by
          show _ = _
          have h2 := HA.out
          rw [hav] at h2 ⊢
          exact bline_hit h2
        have hd : (a' != v) = false := by simp [hav]
        clear hav hxv hx
        go_wp2_with (at_builtin; go_must (refine wpList_app_leaf slz_int.slt rfl (.tmp 89) (.tmp 91) rfl rfl (hF.alloc _) (by simp; omega) rfl rfl (lit_ints [a'] (heap_alloc_new _ _) (by simpa using hi64) (by unfold maxLen; simp)) (by simp; omega) (by unfold maxLen; simp; omega) ?_); intro a5 c5 w5 hG5)
        go_ret
        exact ⟨_, rfl, by rw [HR2.out, HN.out]; have := hG5.fresh; exact (by simpa using this : Fresh (w.heap.size + 1) w5.heap.size w5 _ (ol ++ [a'])).mono (Nat.le_succ _) (Nat.le_refl _), (hb.alloc hsz _).trans (hG5.below.mono (Nat.le_succ _))⟩
      · have hd : (a' != v) = true := by simp [hav]
        have hbf2 : blameF cs path (cs.length + 2) a' = some l := by rw [← hbf]; exact blame_fuel HPA.out _ _ a' ha0 ha1 (by omega) ha1
        obtain ⟨p, ps, text, old, l', j, hp, ht, ho, hl', hj1, hj2, hju⟩ := blame_step hbf2 hx (fun e => hav e.symm)
        obtain ⟨hp0, hp1⟩ := par_first HPA.out ha0 ha1 hp
        have hl2 : blameF cs path cs.length p = some l' := by rw [← hl']; exact blame_fuel HPA.out _ _ p hp0 (by omega) (by omega) (by omega)
        have HN := Lib.hid (bline_step HA.out hp hav)
        have ht10 := HLEN.out a' text ha0 ha1 ht
        have ho10 := HLEN.out p old hp0 (by omega) ho
        obtain ⟨k0, rfl⟩ : ∃ k : Nat, a' = (k : Int) := ⟨a'.toNat, by omega⟩
        obtain ⟨pn, rfl⟩ : ∃ k : Nat, p = (k : Int) := ⟨p.toNat, by omega⟩
        have hk0 : k0 < cs.length := by omega
        have hpn : pn < cs.length := by omega
        obtain ⟨g, off, ap, np, at2, nt, hag, hc0, hc1, hc2, hpar, hz1, htr⟩ := hs.commit hk0
        subst hag
        obtain ⟨g3, off3, ap3, np3, at3, nt3, he3, e0, e1, e2, _, _, etr⟩ := hs.commit hpn
        obtain ⟨rfl, rfl⟩ : g = g3 ∧ off = off3 := by simpa using he3
        have htt : getT cs[k0].tree path = some text := by rw [← ht]; unfold treeAtC; rw [Int.toNat_natCast, getD_com hk0]
        have hoo : getT cs[pn].tree path = some old := by rw [← ho]; unfold treeAtC; rw [Int.toNat_natCast, getD_com hpn]
        rw [Int.toNat_natCast, getD_com hk0] at hp
        have hlp := hpar.le
        have hpos : 0 < cs[k0].parents.length := by rw [hp]; simp
        obtain ⟨g2, off2, hag2, hdc, hdi⟩ := hpar.int (i := 0) hpos
        have hp00 : cs[k0].parents[0] = (pn : Int) := by simp [hp]
        rw [hp00, Nat.add_zero] at hdc
        obtain ⟨ap0, hap0⟩ : ∃ z, z = ap := ⟨_, rfl⟩
        obtain ⟨ps0, hps0⟩ : ∃ t, t = cs[k0].parents := ⟨_, rfl⟩
        obtain ⟨t0, ht0⟩ : ∃ t, t = cs[k0].tree := ⟨_, rfl⟩
        obtain ⟨t3, ht3⟩ : ∃ t, t = cs[pn].tree := ⟨_, rfl⟩
        have hone : (0 : Int) < ps0.length := by rw [hps0]; omega
        rw [← hps0] at hc0
        rw [← ht0] at hc2 htr htt
        rw [← ht3] at e2 etr hoo
        subst hag2
        clear hdi hp00 he3 e0 e1 hc1 hap0 hbf2 hav hxv hpar hps0 ht0 ht3 hlp hpos ht ho hl' hp
        go_wp2_with (at_builtin; go_must (refine wpList_app_leaf slz_int.slt rfl (.tmp 35) (.tmp 37) rfl rfl (hF.alloc _) (by simp; omega) rfl rfl (lit_ints [(k0 : Int)] (heap_alloc_new _ _) (by simpa using hi64) (by unfold maxLen; simp)) (by simp; omega) (by unfold maxLen; simp; omega) ?_); intro a5 c5 w5 hG5; have hF5 := hG5.fresh; have hb5 := (hb.alloc hsz (.cells #[.int .i64 (k0 : Int)] (Tid.tid Int))).trans (hG5.below.mono (Nat.le_succ _)); have q05 := (hG5.below.cell (p := ⟨w.heap.size, 0, none⟩) (Nat.lt_succ_self _)).trans (keepc q0 ((Below.refl _ _).alloc (Nat.le_refl _) _)); have q15 := (hG5.below.cell (p := ⟨w.heap.size, 1, none⟩) (Nat.lt_succ_self _)).trans (keepc q1 ((Below.refl _ _).alloc (Nat.le_refl _) _)); have hs5 := hG5.below.size; simp only [alloc_size1] at hs5; have d0 := keepc hc0 hb5; have d2 := keepc hc2 hb5; have d3 := keepc e2 hb5; have d4 := keepc hdc hb5)
        refine (l4Get_any _ t0 path _ (htr.keep hb5).rd htt).mono ?_
        rintro e w6 ⟨vx, rfl, hX, rfl⟩
        have hX : rd (fun b => b < w6.heap.size) w6 [vx] text := hX
        go_wp2_with fail
        refine (l4Get_any _ t3 path _ (etr.keep hb5).rd hoo).mono ?_
        rintro e w7 ⟨vo, rfl, hO, rfl⟩
        have hO : rd (fun b => b < w7.heap.size) w7 [vo] old := hO
        go_wp2_with fail
        refine (l1Match_any _ _ old text _ hO hX ho10 ht10).mono ?_
        rintro e w8 ⟨vm, rfl, hMt, hb8⟩
        have hs8 := hb8.size
        have hF8 := (hF5.below (Nat.le_refl _) hb8).now
        have hb58 := hb5.trans (hb8.mono hb5.size)
        have q08 := keepc q05 hb8
        have q18 := keepc q15 hb8
        have hml := matchT_len old text
        obtain ⟨ms, hms⟩ : ∃ ms, ms = matchT old text := ⟨_, rfl⟩
        rw [← hms] at hMt hml hj1 hju
        obtain ⟨am, cm, hvm, hMs⟩ := hMt.shape
        subst hvm
        have HJ1 := Lib.hid hj1
        have HJU := Lib.hid hju
        have HJ2 := Lib.hid hj2
        clear hms hMt hX hO d0 d2 d3 d4 q05 q15 hF5 hb8 hb5 hj1 hju hj2 q0 q1 hG5 hF hrl hLs hcl hx hb hsz hc0 hc2 e2 hdc
        go_wp2
        go_loopw [3, 16] (fun ln i wp => (∃ k : Nat, k ≤ ms.length ∧ i = .int .i64 k ∧ ln = .int .i64 x ∧ Hid (∀ i, i < k → ¬ ms[i]? = some (x : Int))) ∧ wp = w8) (fun _ i _ => ms.length - (intOf i).toNat)
        case atStart => exact ⟨⟨0, by omega, rfl, rfl, by show ∀ _, _; intro i hi; omega⟩, rfl⟩
        case round =>
          obtain ⟨⟨k, hk, rfl, rfl, HI⟩, rfl⟩ := hrel
          by_cases hlt : k < ms.length
          · obtain ⟨g9, off9, hag9, hc9, _⟩ := hMs.int hlt
            subst hag9
            by_cases he : ms[k] = (x : Int)
            · have hkj : k = j := HJU.out k (by rw [List.getElem?_eq_getElem hlt, he])
              have hde : (ms[k] == (x : Int)) = true := by simp [he]
              have HKJ := Lib.hid hkj
              clear he hkj
              go_wp2_with fail
              refine (l11Of_any cs path HPA.out hfew HTX.out hz cs.length _ _ _ (pn : Int) _ (hs.keep hb58).rd hp0 (by omega) (by omega)).mono ?_
              rintro e w9 ⟨v9, rfl, hF9, hb9⟩
              rw [hl2] at hF9
              have hF9 : Fresh wr.heap.size w9.heap.size w9 [v9] l' := hF9
              have hs9 := hb9.size
              go_wp2
              go_roundw
              case rel => exact ⟨⟨m', (pn : Int), k, ol ++ [(k0 : Int)], l', rfl, hp0, by omega, by omega, rfl, by rw [HKJ.out]; exact HJ2.out, hl2, by simp; omega, by have := (hF8.below (Nat.le_refl _) hb9).now; simpa using this, Rep.lt hF9.rd, keepc q08 hb9, keepc q18 hb9, by omega, HN.out⟩, hb58.trans (hb9.mono hb58.size)⟩
              case measure => simp [intOf] <;> omega
            · have hde : (ms[k] == (x : Int)) = false := by simp [he]
              have HE := Lib.hid he
              clear he
              go_wp2
              go_roundw
              case rel => exact ⟨⟨k + 1, by omega, by go_num, rfl, by show ∀ _, _; intro i hi hh; by_cases e : i < k; exact HI.out i e hh; have e2 : i = k := (by omega); subst e2; rw [List.getElem?_eq_getElem hlt] at hh; exact HE.out (Option.some.inj hh)⟩, trivial⟩
              case measure => simp [intOf] <;> omega
          · exact (HI.out j (by have := (List.getElem?_eq_some_iff.1 HJ1.out).1; omega) HJ1.out).elim
end Go.Proofs.YtmblockojnaffaaDoor
