/-
  Walks: files taken out of an own tree, and put into it: what comes of it is own.
-/
import Derived.Test.YtegknjcifmenpaaDoorVTD
import Derived.Test.YtegknjcifmenpaaDoorWSetS
import Derived.Test.YtegknjcifmenpaaDoorOwnL
import Derived.Test.YtegknjcifmenpaaDoorVUM
set_option linter.unusedVariables false
namespace Go.Vc
open Go.RowKit
open Rep (rd)
open Own (own)
theorem asc_dist {t : List File} (h : AscF t) : DistF t := h.imp fun {f g} h e => by rw [e, lessB_irr] at h; cases h
theorem file_fs {S : Nat → Prop} {w : World} {p : ByteArray} {u : Value} {tx : List ByteArray} (hz : p.size ≤ maxLen) (h : FS S w [u] tx) : FS S w [.string p, u] (⟨p, tx⟩ : File) := by
  have := FS.consL (show own [] w [.string p] p from ⟨rfl, rfl, hz⟩) h
  exact this
theorem set_join {φ : ByteArray → Nat → Prop} {p : ByteArray} {C n na nb Bx m : Nat} {w : World} {v : Value} {rs : List (Raw File)} {xs : List File} (hφ : Apart φ) (hφb : ∀ q b, φ q b → C ≤ b ∧ b < n) (hna : n ≤ na) (hC : C ≤ n) (hBx : n ≤ Bx)
    (hFX : FreshX (fun b => na ≤ b ∧ b < nb) Bx m w [v] rs) (hA2 : All2 (fun (r : Raw File) x => FS (fun b => (φ x.path b ∧ ¬ x.path = p) ∨ (x.path = p ∧ na ≤ b ∧ b < nb)) w (Raw.vs r) x) rs xs) (hd : DistF xs) : Fresh C w.heap.size w [v] xs := by
  refine hFX.join (φ := fun q b => (φ q b ∧ ¬ q = p) ∨ (q = p ∧ na ≤ b ∧ b < nb)) (fun q r b h1 h2 => ?_) hA2 hd (fun q b h => ?_) (fun q b h => ?_) (by omega)
  · rcases h1 with ⟨h1, h3⟩ | ⟨rfl, h1⟩ <;> rcases h2 with ⟨h2, h4⟩ | ⟨rfl, h2⟩
    · exact hφ q r b h1 h2
    · have := (hφb _ _ h1).2; omega
    · have := (hφb _ _ h2).2; omega
    · rfl
  · rcases h with ⟨h, _⟩ | ⟨_, h⟩
    · exact .inr (by have := (hφb _ _ h).2; omega)
    · exact .inl h
  · rcases h with ⟨h, _⟩ | ⟨_, h⟩
    · exact (hφb _ _ h).1
    · omega
end Go.Vc
namespace Go.Proofs.YtegknjcifmenpaaDoor
open Go.RowKit Go.Vc
open Go.Vc.Rep (rd)
open Go.Vc.Own (own)
set_option maxHeartbeats 8000000 in
set_option maxRecDepth 100000 in
theorem l4Drop_own {B m : Nat} (v : Value) (t : List File) (path : ByteArray) (w : World) (hv : Fresh B m w [v] t) (hB : B ≤ w.heap.size) (hd : DistF t) (hl : t.length ≤ 1000) (hzp : path.size ≤ maxLen) :
    Calls Tryd.prog 28 #[v, .string path] w fun e w' => ∃ v', e = .returned v' ∧ Fresh B w'.heap.size w' [v'] (dropT t path) ∧ Below w.heap.size w w' := by
  obtain ⟨a, cap, rfl, _⟩ := hv.shape
  obtain ⟨φ, hφ, hφb, hCO⟩ := hv.part hd
  have hs := (rd_slice_of (Rep.lt hv.rd)).2
  have hDD : DistF (dropT t path) := hd.filter _
  have hle := hs.le
  have hE := Fresh.empty (β := Raw File) (by decide) w.heap.size w (Nat.le_refl _)
  go_enter Tryd.func28, Tryd.ntmps28
  go_wp2
  go_loopw [5, 6] (fun out i wr => (∃ (k : Nat) (ol : List (Raw File)) (ys : List File), k ≤ t.length ∧ i = .int .i64 k ∧ ol.length ≤ k ∧ Fresh w.heap.size wr.heap.size wr [out] ol ∧ All2 (fun (r : Raw File) x => FS (φ x.path) w (Raw.vs r) x) ol ys ∧ Hid (dropT t path = ys ++ (t.drop k).filter (fun f => !isAtB path f.path))) ∧ Below w.heap.size w wr) (fun _ i _ => t.length - (intOf i).toNat)
  case atStart => exact ⟨⟨0, [], [], by omega, rfl, by simp, hE.now, trivial, rfl⟩, (Below.refl _ _).alloc (Nat.le_refl _) _⟩
  case round =>
    clear hE
    obtain ⟨⟨k, ol, ys, hk, rfl, hol, hF, hA2, HA⟩, hb⟩ := hrel
    obtain ⟨a2, c2, rfl, _⟩ := hF.shape
    have hsz := hb.size
    by_cases hlt : k < t.length
    · obtain ⟨g, off, a1, c1, rfl, hc1, hc2, hz1, hft⟩ := hs.file hlt
      have hraw := hCO k hlt g off a1 c1 rfl hc1 hc2
      have hc1 := keepc hc1 hb
      have hc2 := keepc hc2 hb
      have HYY := fun hp => filt_yes (P := fun f : File => !isAtB path f.path) HA.out hlt hp
      have HNN := fun hp => filt_no (P := fun f : File => !isAtB path f.path) HA.out hlt hp
      obtain ⟨f, hf⟩ : ∃ f, f = t[k] := ⟨_, rfl⟩
      rw [← hf] at hc1 hc2 hz1 hraw HYY HNN
      have HY := Lib.hid HYY
      have HN := Lib.hid HNN
      clear hf hft HYY HNN
      by_cases he : f.path = path
      · have hp : isAtB path f.path = true := by unfold isAtB; rw [decide_eq_true he]; rfl
        have hd : decide (f.path = path) = true := decide_eq_true he
        have HN2 := Lib.hid (HN.out (by rw [hp]; rfl))
        clear he hp
        go_wp2
        go_roundw
        case rel => exact ⟨⟨k + 1, ol, ys, by omega, by go_num, by omega, hF, hA2, HN2.out⟩, hb⟩
        case measure => simp [intOf] <;> omega
      · have hpi : isAtB path f.path = inB path f.path := by unfold isAtB; rw [decide_eq_false he]; rfl
        have hd : decide (f.path = path) = false := decide_eq_false he
        clear he
        cases hp : inB path f.path with
        | true =>
          have HN2 := Lib.hid (HN.out (by rw [hpi, hp]; rfl))
          go_wp2_with fail
          refine (l4In_is _ _ _ hzp hz1 hp).mono ?_
          rintro e w3 ⟨rfl, rfl⟩
          go_wp2
          go_roundw
          case rel => exact ⟨⟨k + 1, ol, ys, by omega, by go_num, by omega, hF, hA2, HN2.out⟩, hb⟩
          case measure => simp [intOf] <;> omega
        | false =>
          have HN2 := Lib.hid (HY.out (by rw [hpi, hp]; rfl))
          go_wp2_with fail
          refine (l4In_is _ _ _ hzp hz1 hp).mono ?_
          rintro e w3 ⟨rfl, rfl⟩
          go_wp2_with (at_builtin; go_must (refine wpList_app_leaf slz_file.slt.raw rfl (.tmp 31) (.tmp 36) rfl rfl (hF.alloc _) (by simp; omega) rfl rfl (lit_raw (heap_alloc_new _ _) rfl (one_cells2 _ _ _ _) (by decide)) (by simp; omega) (by unfold maxLen; simp; omega) ?_); intro a5 c5 w5 hG5)
          go_roundw
          case rel => exact ⟨⟨k + 1, _, ys ++ [f], by omega, by go_num, by simp; omega, by have := hG5.fresh; simpa using this, hA2.snoc hraw, HN2.out⟩, (hb.alloc hsz _).trans hG5.below⟩
          case measure => simp [intOf] <;> omega
    · have HN := Lib.hid (filt_end HA.out hlt)
      go_wp2
      go_ret
      exact ⟨_, rfl, by rw [HN.out]; exact (hF.off (H := fun b => b < w.heap.size) (fun b hb => .inl hb)).join hφ (hA2.mono fun r x h => FS.low h hb) (by rw [← HN.out]; exact hDD) (fun p b h => .inl (hφb p b h).2) (fun p b h => (hφb p b h).1) hB, hb⟩

set_option maxHeartbeats 16000000 in
set_option maxRecDepth 100000 in
theorem l4Set_own {B m : Nat} {T : Nat → Prop} (v : Value) (t : List File) (p : ByteArray) (tv : Value) (tx : List ByteArray) (w : World) (hv : Fresh B m w [v] t) (hB : B ≤ w.heap.size) (hasc : AscF t) (hl : t.length ≤ 1000) (hz : p.size ≤ maxLen) (ht : rd T w [tv] tx) (hx : tx.length ≤ 1000) :
    Calls Tryd.prog 32 #[v, .agg #[.string p, tv]] w fun e w' => ∃ v', e = .returned v' ∧ Fresh B w'.heap.size w' [v'] (setT t ⟨p, tx⟩) ∧ Below w.heap.size w w' := by
  obtain ⟨a, cap, rfl, _⟩ := hv.shape
  obtain ⟨φ, hφ, hφb, hCO⟩ := hv.part (asc_dist hasc)
  have hs := (rd_slice_of (Rep.lt hv.rd)).2
  have hDD := Lib.hid (asc_dist (asc_set hasc (⟨p, tx⟩ : File)))
  obtain ⟨at_, ct, rfl, hts⟩ := rd_slice_elim (Rep.lt ht)
  have hle := hs.le
  obtain ⟨wb, hwb⟩ : ∃ wb, wb = w.alloc (.cells #[.string p, .slice at_ tx.length ct] 51) := ⟨_, rfl⟩
  obtain ⟨hB0, hsb, hq⟩ := boxed (vs := [.string p, .slice at_ tx.length ct]) hwb
  have q0 := hq 0 _ rfl
  have q1 := hq 1 _ rfl
  have HW := Lib.hid hwb
  have hE : Fresh wb.heap.size (wb.alloc (.cells #[] 51)).heap.size (wb.alloc (.cells #[] 51)) [.slice (some ⟨wb.heap.size, 0, none⟩) 0 0] ([] : List (Raw File)) := (Fresh.empty (β := Raw File) (by decide) wb.heap.size wb (Nat.le_refl _)).now
  rw [show (⟨wb.heap.size, 0, none⟩ : Addr) = ⟨w.heap.size + 1, 0, none⟩ from by rw [hsb]] at hE
  have hBE := (Below.refl wb.heap.size wb).alloc (Nat.le_refl _) (.cells #[] 51)
  have hlt0 : w.heap.size < wb.heap.size := by omega
  have H0 : Hid (setT t ⟨p, tx⟩ = [] ++ setG ⟨p, tx⟩ false (t.drop 0)) := rfl
  clear hq hwb hsb
  go_enter Tryd.func32, Tryd.ntmps32
  go_wp2
  rw [← HW.out]
  go_loopw [5, 6, 7] (fun out pt i wr => (∃ (k : Nat) (ol : List (Raw File)) (ys : List File) (c : Bool) (na nb : Nat), k ≤ t.length ∧ i = .int .i64 k ∧ pt = .bool c ∧ ol.length ≤ 2 * k ∧ FreshX (fun b => na ≤ b ∧ b < nb) wb.heap.size wr.heap.size wr [out] ol ∧ (c = false → na = nb) ∧ nb ≤ wr.heap.size ∧ w.heap.size ≤ na ∧ All2 (fun (r : Raw File) x => FS (fun b => (φ x.path b ∧ ¬ x.path = p) ∨ (x.path = p ∧ na ≤ b ∧ b < nb)) wr (Raw.vs r) x) ol ys ∧ Hid (setT t ⟨p, tx⟩ = ys ++ setG ⟨p, tx⟩ c (t.drop k))) ∧ Below wb.heap.size wb wr) (fun _ _ i _ => t.length - (intOf i).toNat)
  case atStart => exact ⟨⟨0, [], [], false, w.heap.size, w.heap.size, by omega, rfl, rfl, by simp, Fresh.off (H := fun b => w.heap.size ≤ b ∧ b < w.heap.size) hE (fun b hb => by have := hb.1; have := hb.2; omega), fun _ => rfl, by simp; omega, Nat.le_refl _, trivial, H0.out⟩, hBE⟩
  case round =>
    clear hE hBE H0
    obtain ⟨⟨k, ol, ys, c, na, nb, hk, rfl, rfl, hol, hFX, hcn, hnb, hna, hA2, HA⟩, hbr⟩ := hrel
    obtain ⟨wx, rfl⟩ : ∃ wx : World, wx = wr := ⟨_, rfl⟩
    obtain ⟨a2, c2, rfl, _⟩ := hFX.fresh.shape
    have hsr := hbr.size
    have q0 := keepc q0 hbr
    have q1 := keepc q1 hbr
    by_cases hlt : k < t.length
    · obtain ⟨g, off, a1, c1, rfl, hc1, hc2, hz1, hft⟩ := hs.file hlt
      have hraw0 := hCO k hlt g off a1 c1 rfl hc1 hc2
      have hgb : g < w.heap.size := World.block_lt_of_cell? w _ hc1
      have hbx := hB0.trans (hbr.mono hB0.size)
      have hc1 := keepc hc1 hbx
      have hc2 := keepc hc2 hbx
      have hft := hft.below (Nat.le_refl _) hbx
      have hraw := FS.low hraw0 hbx
      clear hraw0
      have HP := Lib.hid (fun h1 h2 => tset_put (f := ⟨p, tx⟩) (k := k) (M := setT t ⟨p, tx⟩) (ol := ys) (t := t) h1 hlt h2)
      have HS := Lib.hid (fun h1 h2 => tset_same (f := ⟨p, tx⟩) (k := k) (M := setT t ⟨p, tx⟩) (ol := ys) (t := t) h1 hlt h2)
      have HL := Lib.hid (fun h1 h2 => tset_less (f := ⟨p, tx⟩) (k := k) (M := setT t ⟨p, tx⟩) (ol := ys) (t := t) h1 hlt h2)
      have HMo := Lib.hid (fun h1 => tset_more (f := ⟨p, tx⟩) (k := k) (M := setT t ⟨p, tx⟩) (ol := ys) (t := t) h1 hlt)
      have HSk := Lib.hid (fun h1 => tset_skip (f := ⟨p, tx⟩) (k := k) (M := setT t ⟨p, tx⟩) (ol := ys) (t := t) h1 hlt)
      have hir : ∀ q : ByteArray, lessB q q = false := lessB_irr
      obtain ⟨fk, hfk⟩ : ∃ fk, fk = t[k] := ⟨_, rfl⟩
      rw [← hfk] at hc1 hc2 hz1 hft hraw HP HS HL HMo HSk
      clear hfk
      cases c with
      | false =>
        have hnn := hcn rfl
        clear hcn
        subst hnn
        cases hls : lessB fk.path p with
        | true =>
          have hne : ¬ fk.path = p := fun e => by rw [e, hir] at hls; cases hls
          have HNE := Lib.hid hne
          have HN2 := Lib.hid (HL.out HA.out hls hne)
          have hd : decide (fk.path = p) = false := decide_eq_false hne
          have hl' : Op.bytesLess fk.path.toList p.toList = true := hls
          clear hne hls HP HS HL HMo HSk HA
          have e0 := BW.cell q0
          have e1 := BW.cell hc1
          go_wp2
          refine wp_region_bw (by kernel_rfl) (by kernel_rfl) ?_
          repeat (go_big_quiet_step (fail))
          refine wpQuiet_nil ?_
          rintro w1 ⟨⟨_, hbw⟩, rfl⟩
          have hFX := (hFX.below (Nat.le_refl _) hbw).upTo hbw.size
          have hA2 := hA2.mono fun r x h => FS.low h hbw
          have hbr := hbr.trans (hbw.mono hsr)
          have hsr' := hbw.size
          have hsr := hbr.size
          have q0 := keepc q0 hbw
          have q1 := keepc q1 hbw
          have hc1 := keepc hc1 hbw
          have hc2 := keepc hc2 hbw
          have hraw := FS.low hraw hbw
          clear hbw
          obtain ⟨wx, rfl⟩ : ∃ wx : World, wx = w1 := ⟨_, rfl⟩
          clear e0 e1
          have e0 := BW.cell q0
          have e1 := BW.cell hc1
          go_wp2
          refine wp_region_bw (by kernel_rfl) (by kernel_rfl) ?_
          repeat (go_big_quiet_step (fail))
          refine wpQuiet_nil ?_
          rintro w1 ⟨⟨_, hbw⟩, rfl⟩
          have hFX := (hFX.below (Nat.le_refl _) hbw).upTo hbw.size
          have hA2 := hA2.mono fun r x h => FS.low h hbw
          have hbr := hbr.trans (hbw.mono hsr)
          have hsr' := hbw.size
          have hsr := hbr.size
          have q0 := keepc q0 hbw
          have q1 := keepc q1 hbw
          have hc1 := keepc hc1 hbw
          have hc2 := keepc hc2 hbw
          have hraw := FS.low hraw hbw
          clear hbw
          obtain ⟨wx, rfl⟩ : ∃ wx : World, wx = w1 := ⟨_, rfl⟩
          clear e0 e1
          go_wp2_with (at_builtin; go_must (refine wpList_app_leafX slz_file.slt.raw rfl (.tmp 45) (.tmp 50) rfl rfl (hFX.alloc _) (fun b hb => by have := hb.2; simp; omega) (by simp; omega) rfl rfl (lit_raw (heap_alloc_new _ _) rfl (one_cells2 _ _ _ _) (by decide)) (by simp; omega) (by unfold maxLen; simp; omega) ?_); intro a7 c7 w7 hG7)
          have hs7 := hG7.below.size
          have hG7f := hG7.fresh
          go_roundw
          case rel => exact ⟨⟨k + 1, _, _, false, na, na, by omega, by go_num, rfl, by simp; omega, by simpa using hG7f, (fun _ => rfl), by simp at hs7; omega, by omega, (hA2.mono fun r x h => FS.frame (fun b hb hl => ⟨grewX_old hG7 hl (hb.imp (fun h => by have := (hφb _ _ h.1).2; omega) (fun h => h.2)), hb⟩) h).snoc (FS.frame (fun b hb hl => ⟨grewX_old hG7 hl (.inl (by have := (hφb _ _ hb).2; omega)), .inl ⟨hb, HNE.out⟩⟩) hraw), HN2.out⟩, (hbr.alloc hsr _).trans hG7.below⟩
          case measure => simp [intOf] <;> omega
        | false =>
          have hl' : Op.bytesLess fk.path.toList p.toList = false := hls
          have HPP := Lib.hid (HP.out HA.out hls)
          have HSS := Lib.hid (HS.out HA.out hls)
          clear hls HP HS HL HMo HSk HA
          have e0 := BW.cell q0
          have e1 := BW.cell hc1
          go_wp2
          refine wp_region_bw (by kernel_rfl) (by kernel_rfl) ?_
          repeat (go_big_quiet_step (fail))
          refine wpQuiet_nil ?_
          rintro w1 ⟨⟨_, hbw⟩, rfl⟩
          have hFX := (hFX.below (Nat.le_refl _) hbw).upTo hbw.size
          have hA2 := hA2.mono fun r x h => FS.low h hbw
          have hbr := hbr.trans (hbw.mono hsr)
          have hsr' := hbw.size
          have hsr := hbr.size
          have q0 := keepc q0 hbw
          have q1 := keepc q1 hbw
          have hc1 := keepc hc1 hbw
          have hc2 := keepc hc2 hbw
          have hraw := FS.low hraw hbw
          clear hbw
          obtain ⟨wx, rfl⟩ : ∃ wx : World, wx = w1 := ⟨_, rfl⟩
          clear e0 e1
          have hF1 := hFX.fresh
          have hEm := Fresh.empty (β := ByteArray) Nat.one_pos wx.drew.heap.size wx.drew (Nat.le_refl _)
          have htx := hts.keep (hB0.trans (hbr.mono hB0.size))
          go_wp2_with fail
          go_region_held3 (fun w' => w'.cell? ⟨w.heap.size, 0, none⟩ = some (.string p) ∧ w'.cell? ⟨w.heap.size, 1, none⟩ = some (.slice at_ tx.length ct))
            (first | go_keep | exact K9 | exact K5 | exact ⟨q0, q1⟩)
            (first
              | (refine step_app_leaf slz_string.slt rfl (.tmp 30) (.tmp 32) rfl rfl (xs := ([] : List ByteArray)) hEm (by simp) rfl rfl (htx.drew.alloc _) (by simp; omega) (by unfold maxLen; simp; omega) ?_; intro a5 c5 w5 hG5; have hF5 := hG5.fresh; have hs5 := hG5.below.size; have hb5 : Below wx.heap.size wx w5 := ((Below.refl wx.heap.size wx).drew.alloc (by simp) _).trans (hG5.below.mono (by simp)); have K5 := And.intro (keepc q0 hb5) (keepc q1 hb5); rw [List.nil_append, List.length_nil, Nat.zero_add] at hF5)
              | (go_must (refine step_app_leafX (H := fun b => wx.heap.size ≤ b ∧ b < w5.heap.size) (m0 := wx.heap.size) slz_file.slt.raw rfl (.tmp 27) (.tmp 35) rfl rfl (((hF1.below (Nat.le_refl _) hb5).off (fun b hb => .inr hb.1)).alloc _) (fun b hb => by have := hb.2; simp; omega) (by have := hb5.size; simp; omega) rfl rfl (lit_raw (heap_alloc_new _ _) rfl (one_cells2 _ _ _ _) (by decide)) (by simp; omega) (by unfold maxLen; simp; omega) ?_); intro a9 c9 w9 hG9; have K9 := And.intro ((hG9.below.cell (p := ⟨w.heap.size, 0, none⟩) (by omega)).trans (keepc K5.1 ((Below.refl _ _).alloc (Nat.le_refl _) _))) ((hG9.below.cell (p := ⟨w.heap.size, 1, none⟩) (by omega)).trans (keepc K5.2 ((Below.refl _ _).alloc (Nat.le_refl _) _)))))
          all_goals
            have hs5' := hb5.size
            have hs9 := hG9.below.size
            have q0 := K9.1
            have q1 := K9.2
            have hFX := hG9.fresh
            have hnew : FS (fun b => (φ p b ∧ ¬ p = p) ∨ (p = p ∧ wx.heap.size ≤ b ∧ b < w5.heap.size)) w9 [.string p, .slice a5 tx.length c5] (⟨p, tx⟩ : File) := FS.frame (S := fun b => wx.heap.size ≤ b ∧ b < w5.heap.size) (fun b hb hl => ⟨grewX_old hG9 hl (.inr hb), .inr ⟨rfl, hb⟩⟩) (file_fs hz (Fresh.fs hF5))
            have hold : All2 (fun (r : Raw File) x => FS (fun b => (φ x.path b ∧ ¬ x.path = p) ∨ (x.path = p ∧ wx.heap.size ≤ b ∧ b < w5.heap.size)) w9 (Raw.vs r) x) ol ys :=
              hA2.mono fun r x h => FS.frame (fun b hb hl => by
                have h9 : φ x.path b ∧ ¬ x.path = p := hb.resolve_right (fun h => by have := h.2; omega)
                have h8 := (hφb _ _ h9.1).2
                exact ⟨(grewX_old hG9 (by omega) (.inl (by omega))).trans (hb5.block b hl), .inl h9⟩) h
            have hA2 := All2.snoc (a := (⟨[.string p, .slice a5 tx.length c5], rfl, one_cells2 _ _ _ _⟩ : Raw File)) (b := (⟨p, tx⟩ : File)) hold hnew
            have hbr : Below wb.heap.size wb w9 := ((hbr.trans (hb5.mono hsr)).alloc (by omega) _).trans hG9.below
            have hszz : w5.heap.size ≤ w9.heap.size := by simp at hs9; omega
            have hszx : w.heap.size ≤ wx.heap.size := by omega
            have hsr := hbr.size
            clear K9 K5 hold hnew hs9 htx hEm hF5 hF1
            have hraw := FS.frame (w' := w9) (S' := φ fk.path) (fun b hb hl => ⟨(grewX_old hG9 (by omega) (.inl (by have := (hφb _ _ hb).2; omega))).trans (hb5.block b hl), hb⟩) hraw
            have hgl := World.block_lt_of_cell? wx _ hc1
            have hc1 : w9.cell? ⟨g, off + k * 2, none⟩ = some (.string fk.path) := by rw [World.cell?_of_block (w := wx) ((grewX_old hG9 (b := g) (by omega) (.inl (by omega))).trans (hb5.block g hgl))]; exact hc1
            have hc2 : w9.cell? ⟨g, off + k * 2 + 1, none⟩ = some (.slice a1 fk.text.length c1) := by rw [World.cell?_of_block (w := wx) ((grewX_old hG9 (b := g) (by omega) (.inl (by omega))).trans (hb5.block g hgl))]; exact hc2
            obtain ⟨na, hna2⟩ : ∃ na, na = wx.heap.size := ⟨_, rfl⟩
            obtain ⟨nb, hnb2⟩ : ∃ nb, nb = w5.heap.size := ⟨_, rfl⟩
            rw [← hna2, ← hnb2] at hFX hA2
            rw [← hna2] at hszx
            rw [← hnb2] at hszz
            obtain ⟨wy, hwy⟩ : ∃ wy, wy = w9 := ⟨_, rfl⟩
            clear hG9 hb5 hs5 hna2 hnb2 hnb hna hgl
            subst hwy
            by_cases he : fk.path = p
            · have HN2 := Lib.hid (HSS.out he)
              have hd : decide (fk.path = p) = true := decide_eq_true he
              clear he HSS HPP
              have e0 := BW.cell q0
              have e1 := BW.cell hc1
              go_wp2
              refine wp_region_bw (by kernel_rfl) (by kernel_rfl) ?_
              repeat (go_big_quiet_step (fail))
              refine wpQuiet_nil ?_
              rintro w1 ⟨⟨_, hbw⟩, rfl⟩
              have hFX := (hFX.below (Nat.le_refl _) hbw).upTo hbw.size
              have hA2 := hA2.mono fun r x h => FS.low h hbw
              have hbr := hbr.trans (hbw.mono hsr)
              have hsr' := hbw.size
              have hsr := hbr.size
              have q0 := keepc q0 hbw
              have q1 := keepc q1 hbw
              have hc1 := keepc hc1 hbw
              have hc2 := keepc hc2 hbw
              have hraw := FS.low hraw hbw
              clear hbw
              obtain ⟨wx, rfl⟩ : ∃ wx : World, wx = w1 := ⟨_, rfl⟩
              clear e0 e1
              go_wp2
              go_roundw
              case rel => exact ⟨⟨k + 1, _, _, true, na, nb, by omega, by go_num, rfl, (by first | omega | (simp; omega)), by simpa using hFX, (fun h => by cases h), by omega, by omega, hA2, HN2.out⟩, hbr⟩
              case measure => simp [intOf] <;> omega
            · have HN2 := Lib.hid (HPP.out he)
              have HNE := Lib.hid he
              have hd : decide (fk.path = p) = false := decide_eq_false he
              clear he HSS HPP
              have e0 := BW.cell q0
              have e1 := BW.cell hc1
              go_wp2
              refine wp_region_bw (by kernel_rfl) (by kernel_rfl) ?_
              repeat (go_big_quiet_step (fail))
              refine wpQuiet_nil ?_
              rintro w1 ⟨⟨_, hbw⟩, rfl⟩
              have hFX := (hFX.below (Nat.le_refl _) hbw).upTo hbw.size
              have hA2 := hA2.mono fun r x h => FS.low h hbw
              have hbr := hbr.trans (hbw.mono hsr)
              have hsr' := hbw.size
              have hsr := hbr.size
              have q0 := keepc q0 hbw
              have q1 := keepc q1 hbw
              have hc1 := keepc hc1 hbw
              have hc2 := keepc hc2 hbw
              have hraw := FS.low hraw hbw
              clear hbw
              obtain ⟨wx, rfl⟩ : ∃ wx : World, wx = w1 := ⟨_, rfl⟩
              clear e0 e1
              go_wp2_with (at_builtin; go_must (refine wpList_app_leafX slz_file.slt.raw rfl (.tmp 45) (.tmp 50) rfl rfl (hFX.alloc _) (fun b hb => by have := hb.2; simp; omega) (by simp; omega) rfl rfl (lit_raw (heap_alloc_new _ _) rfl (one_cells2 _ _ _ _) (by decide)) (by simp; omega) (by unfold maxLen; simp; omega) ?_); intro a7 c7 w7 hG7)
              have hs7 := hG7.below.size
              have hG7f := hG7.fresh
              go_roundw
              case rel => exact ⟨⟨k + 1, _, _, true, na, nb, by omega, by go_num, rfl, by simp; omega, by simpa using hG7f, (fun h => by cases h), by simp at hs7; omega, by omega, (hA2.mono fun r x h => FS.frame (fun b hb hl => ⟨grewX_old hG7 hl (hb.imp (fun h => by have := (hφb _ _ h.1).2; omega) (fun h => h.2)), hb⟩) h).snoc (FS.frame (fun b hb hl => ⟨grewX_old hG7 hl (.inl (by have := (hφb _ _ hb).2; omega)), .inl ⟨hb, HNE.out⟩⟩) hraw), HN2.out⟩, (hbr.alloc hsr _).trans hG7.below⟩
              case measure => simp [intOf] <;> omega
      | true =>
        clear HP HS HL hcn hir
        by_cases he : fk.path = p
        · have HN2 := Lib.hid (HSk.out HA.out he)
          have hd : decide (fk.path = p) = true := decide_eq_true he
          clear he HMo HSk HA
          go_wp2
          refine wp_region_bw (by kernel_rfl) (by kernel_rfl) ?_
          repeat (go_big_quiet_step (fail))
          refine wpQuiet_nil ?_
          rintro w1 ⟨⟨_, hbw⟩, rfl⟩
          have hFX := (hFX.below (Nat.le_refl _) hbw).upTo hbw.size
          have hA2 := hA2.mono fun r x h => FS.low h hbw
          have hbr := hbr.trans (hbw.mono hsr)
          have hsr' := hbw.size
          have hsr := hbr.size
          have q0 := keepc q0 hbw
          have q1 := keepc q1 hbw
          have hc1 := keepc hc1 hbw
          have hc2 := keepc hc2 hbw
          have hraw := FS.low hraw hbw
          clear hbw
          obtain ⟨wx, rfl⟩ : ∃ wx : World, wx = w1 := ⟨_, rfl⟩
          have e0 := BW.cell q0
          have e1 := BW.cell hc1
          go_wp2
          refine wp_region_bw (by kernel_rfl) (by kernel_rfl) ?_
          repeat (go_big_quiet_step (fail))
          refine wpQuiet_nil ?_
          rintro w1 ⟨⟨_, hbw⟩, rfl⟩
          have hFX := (hFX.below (Nat.le_refl _) hbw).upTo hbw.size
          have hA2 := hA2.mono fun r x h => FS.low h hbw
          have hbr := hbr.trans (hbw.mono hsr)
          have hsr' := hbw.size
          have hsr := hbr.size
          have q0 := keepc q0 hbw
          have q1 := keepc q1 hbw
          have hc1 := keepc hc1 hbw
          have hc2 := keepc hc2 hbw
          have hraw := FS.low hraw hbw
          clear hbw
          obtain ⟨wx, rfl⟩ : ∃ wx : World, wx = w1 := ⟨_, rfl⟩
          clear e0 e1
          go_wp2
          go_roundw
          case rel => exact ⟨⟨k + 1, _, _, true, na, nb, by omega, by go_num, rfl, (by first | omega | (simp; omega)), by simpa using hFX, (fun h => by cases h), by omega, by omega, hA2, HN2.out⟩, hbr⟩
          case measure => simp [intOf] <;> omega
        · have HN2 := Lib.hid (HMo.out HA.out he)
          have HNE := Lib.hid he
          have hd : decide (fk.path = p) = false := decide_eq_false he
          clear he HMo HSk HA
          go_wp2
          refine wp_region_bw (by kernel_rfl) (by kernel_rfl) ?_
          repeat (go_big_quiet_step (fail))
          refine wpQuiet_nil ?_
          rintro w1 ⟨⟨_, hbw⟩, rfl⟩
          have hFX := (hFX.below (Nat.le_refl _) hbw).upTo hbw.size
          have hA2 := hA2.mono fun r x h => FS.low h hbw
          have hbr := hbr.trans (hbw.mono hsr)
          have hsr' := hbw.size
          have hsr := hbr.size
          have q0 := keepc q0 hbw
          have q1 := keepc q1 hbw
          have hc1 := keepc hc1 hbw
          have hc2 := keepc hc2 hbw
          have hraw := FS.low hraw hbw
          clear hbw
          obtain ⟨wx, rfl⟩ : ∃ wx : World, wx = w1 := ⟨_, rfl⟩
          have e0 := BW.cell q0
          have e1 := BW.cell hc1
          go_wp2
          refine wp_region_bw (by kernel_rfl) (by kernel_rfl) ?_
          repeat (go_big_quiet_step (fail))
          refine wpQuiet_nil ?_
          rintro w1 ⟨⟨_, hbw⟩, rfl⟩
          have hFX := (hFX.below (Nat.le_refl _) hbw).upTo hbw.size
          have hA2 := hA2.mono fun r x h => FS.low h hbw
          have hbr := hbr.trans (hbw.mono hsr)
          have hsr' := hbw.size
          have hsr := hbr.size
          have q0 := keepc q0 hbw
          have q1 := keepc q1 hbw
          have hc1 := keepc hc1 hbw
          have hc2 := keepc hc2 hbw
          have hraw := FS.low hraw hbw
          clear hbw
          obtain ⟨wx, rfl⟩ : ∃ wx : World, wx = w1 := ⟨_, rfl⟩
          clear e0 e1
          go_wp2_with (at_builtin; go_must (refine wpList_app_leafX slz_file.slt.raw rfl (.tmp 45) (.tmp 50) rfl rfl (hFX.alloc _) (fun b hb => by have := hb.2; simp; omega) (by simp; omega) rfl rfl (lit_raw (heap_alloc_new _ _) rfl (one_cells2 _ _ _ _) (by decide)) (by simp; omega) (by unfold maxLen; simp; omega) ?_); intro a7 c7 w7 hG7)
          have hs7 := hG7.below.size
          have hG7f := hG7.fresh
          go_roundw
          case rel => exact ⟨⟨k + 1, _, _, true, na, nb, by omega, by go_num, rfl, by simp; omega, by simpa using hG7f, (fun h => by cases h), by simp at hs7; omega, by omega, (hA2.mono fun r x h => FS.frame (fun b hb hl => ⟨grewX_old hG7 hl (hb.imp (fun h => by have := (hφb _ _ h.1).2; omega) (fun h => h.2)), hb⟩) h).snoc (FS.frame (fun b hb hl => ⟨grewX_old hG7 hl (.inl (by have := (hφb _ _ hb).2; omega)), .inl ⟨hb, HNE.out⟩⟩) hraw), HN2.out⟩, (hbr.alloc hsr _).trans hG7.below⟩
          case measure => simp [intOf] <;> omega
    · cases c with
      | true =>
        have HN := Lib.hid (tset_end1 HA.out hlt)
        go_wp2
        go_ret
        exact ⟨_, rfl, by rw [HN.out]; exact set_join hφ hφb (by omega) hB (by omega) hFX hA2 (by rw [← HN.out]; exact hDD.out), hB0.trans (hbr.mono hB0.size)⟩
      | false =>
        have HN := Lib.hid (tset_end0 HA.out hlt)
        have hnn := hcn rfl
        clear hcn HA
        subst hnn
        have hF1 := hFX.fresh
        have hEm := Fresh.empty (β := ByteArray) Nat.one_pos wx.drew.heap.size wx.drew (Nat.le_refl _)
        have htx := hts.keep (hB0.trans (hbr.mono hB0.size))
        go_wp2_with fail
        go_region_held3 (fun w' => w'.cell? ⟨w.heap.size, 0, none⟩ = some (.string p) ∧ w'.cell? ⟨w.heap.size, 1, none⟩ = some (.slice at_ tx.length ct))
          (first | go_keep | exact K9 | exact K5 | exact ⟨q0, q1⟩)
          (first
            | (refine step_app_leaf slz_string.slt rfl (.tmp 57) (.tmp 59) rfl rfl (xs := ([] : List ByteArray)) hEm (by simp) rfl rfl (htx.drew.alloc _) (by simp; omega) (by unfold maxLen; simp; omega) ?_; intro a5 c5 w5 hG5; have hF5 := hG5.fresh; have hs5 := hG5.below.size; have hb5 : Below wx.heap.size wx w5 := ((Below.refl wx.heap.size wx).drew.alloc (by simp) _).trans (hG5.below.mono (by simp)); have K5 := And.intro (keepc q0 hb5) (keepc q1 hb5); rw [List.nil_append, List.length_nil, Nat.zero_add] at hF5)
            | (go_must (refine step_app_leafX (H := fun b => wx.heap.size ≤ b ∧ b < w5.heap.size) (m0 := wx.heap.size) slz_file.slt.raw rfl (.tmp 54) (.tmp 62) rfl rfl (((hF1.below (Nat.le_refl _) hb5).off (fun b hb => .inr hb.1)).alloc _) (fun b hb => by have := hb.2; simp; omega) (by have := hb5.size; simp; omega) rfl rfl (lit_raw (heap_alloc_new _ _) rfl (one_cells2 _ _ _ _) (by decide)) (by simp; omega) (by unfold maxLen; simp; omega) ?_); intro a9 c9 w9 hG9; have K9 := And.intro ((hG9.below.cell (p := ⟨w.heap.size, 0, none⟩) (by omega)).trans (keepc K5.1 ((Below.refl _ _).alloc (Nat.le_refl _) _))) ((hG9.below.cell (p := ⟨w.heap.size, 1, none⟩) (by omega)).trans (keepc K5.2 ((Below.refl _ _).alloc (Nat.le_refl _) _)))))
        all_goals
          have hs5' := hb5.size
          have hs9 := hG9.below.size
          have q0 := K9.1
          have q1 := K9.2
          have hFX := hG9.fresh
          have hnew : FS (fun b => (φ p b ∧ ¬ p = p) ∨ (p = p ∧ wx.heap.size ≤ b ∧ b < w5.heap.size)) w9 [.string p, .slice a5 tx.length c5] (⟨p, tx⟩ : File) := FS.frame (S := fun b => wx.heap.size ≤ b ∧ b < w5.heap.size) (fun b hb hl => ⟨grewX_old hG9 hl (.inr hb), .inr ⟨rfl, hb⟩⟩) (file_fs hz (Fresh.fs hF5))
          have hold : All2 (fun (r : Raw File) x => FS (fun b => (φ x.path b ∧ ¬ x.path = p) ∨ (x.path = p ∧ wx.heap.size ≤ b ∧ b < w5.heap.size)) w9 (Raw.vs r) x) ol ys :=
            hA2.mono fun r x h => FS.frame (fun b hb hl => by
              have h9 : φ x.path b ∧ ¬ x.path = p := hb.resolve_right (fun h => by have := h.2; omega)
              have h8 := (hφb _ _ h9.1).2
              exact ⟨(grewX_old hG9 (by omega) (.inl (by omega))).trans (hb5.block b hl), .inl h9⟩) h
          have hA2 := All2.snoc (a := (⟨[.string p, .slice a5 tx.length c5], rfl, one_cells2 _ _ _ _⟩ : Raw File)) (b := (⟨p, tx⟩ : File)) hold hnew
          have hbr : Below wb.heap.size wb w9 := ((hbr.trans (hb5.mono hsr)).alloc (by omega) _).trans hG9.below
          have hszz : w5.heap.size ≤ w9.heap.size := by simp at hs9; omega
          have hszx : w.heap.size ≤ wx.heap.size := by omega
          have hsr := hbr.size
          clear K9 K5 hold hnew hs9 htx hEm hF5 hF1
          go_wp2
          go_ret
          exact ⟨_, rfl, by rw [HN.out]; exact set_join hφ hφb (by omega) hB (by omega) (show FreshX (fun b => wx.heap.size ≤ b ∧ b < w5.heap.size) wb.heap.size w9.heap.size w9 _ _ from by simpa using hFX) hA2 (by rw [← HN.out]; exact hDD.out), hB0.trans (hbr.mono hB0.size)⟩
end Go.Proofs.YtegknjcifmenpaaDoor
