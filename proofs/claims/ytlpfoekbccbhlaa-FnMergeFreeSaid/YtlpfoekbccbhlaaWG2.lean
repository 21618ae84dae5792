/-
  Walks: the merge, as the program does it.
-/
import Derived.Test.YtlpfoekbccbhlaaWG1
import Derived.Test.YtlpfoekbccbhlaaWM3
import Derived.Test.YtlpfoekbccbhlaaWEq
set_option linter.unusedVariables false
namespace Go.Proofs.Ytlpfoekbccbhlaa
open Go.RowKit Go.Vc
open Go.Vc.Rep (rd)
open Go.Vc.Own (own)

set_option maxHeartbeats 4000000 in
set_option maxRecDepth 100000 in
theorem mergeOf_any {S T U : Nat → Prop} (v u x : Value) (o as_ bs : List ByteArray) (w : World) (hv : rd S w [v] o) (hu : rd T w [u] as_) (hx : rd U w [x] bs) (hlo : o.length ≤ 10) (hla : as_.length ≤ 10) (hlb : bs.length ≤ 10) :
    Calls Try.prog 22 #[v, u, x] w fun e w' => ∃ v', e = .returned v' ∧ Fresh w.heap.size w'.heap.size w' [v'] (mergeT o as_ bs) ∧ Below w.heap.size w w' := by
  obtain ⟨a, cap, rfl, hs⟩ := rd_slice_elim (Rep.lt hv)
  obtain ⟨b, cbp, rfl, ht⟩ := rd_slice_elim (Rep.lt hu)
  obtain ⟨c, ccp, rfl, hz⟩ := rd_slice_elim (Rep.lt hx)
  have hcap := hs.1
  have hcbp := ht.1
  have hccp := hz.1
  go_enter Try.func22, Try.ntmps22
  go_wp2_with fail
  refine (match_any _ _ o as_ _ hs.rd ht.rd hlo hla).mono ?_
  rintro e wt1 ⟨v1, rfl, hM, hb1⟩
  obtain ⟨am, cm, rfl, _⟩ := hM.shape
  have hsz1 := hb1.size
  have HML := Lib.hid (matchT_len o as_)
  go_wp2_with (at_builtin; go_must (refine wpList_app_one (xs := matchT o as_) slz_int.slt rfl (.tmp 20) (.tmp 23) rfl rfl (hM.alloc _) (le_alloc hsz1 _) rfl (heap_alloc_new _ _) (Fresh.leaf (α := Int) (m := wt1.heap.size) (own_intm (as_.length : Int) (by unfold I64; omega) _)) hsz1 (by have := HML.out; omega) (by have := HML.out; unfold maxLen; omega) ?_); intro ap cp wp1 hGp)
  have hml := HML.out
  have hP := hGp.fresh
  rw [show matchT o as_ ++ [(as_.length : Int)] = pairsT o as_ from rfl] at hP
  have hbp1 := (hb1.alloc hsz1 _).trans hGp.below
  have hszp1 := hbp1.size
  obtain ⟨ps, hps⟩ : ∃ ps, ps = pairsT o as_ := ⟨_, rfl⟩
  have hpl : ps.length = o.length + 1 := by rw [hps, pairsT_len]
  have hinc : incM (as_.length + 1) 0 ps := by rw [hps]; exact matchT_inc o as_
  have HP := Lib.hid hps
  rw [← hps, hml, ← hpl] at hP
  rw [hml, ← hpl]
  have HPL := Lib.hid hpl
  clear hps hml hpl hGp hM hb1 HML
  refine (match_any _ _ o bs _ (hs.keep hbp1).rd (hz.keep hbp1).rd hlo hlb).mono ?_
  rintro e wt2 ⟨v2, rfl, hM, hb2⟩
  obtain ⟨am2, cm2, rfl, _⟩ := hM.shape
  have hsz2 := hb2.size
  have HML := Lib.hid (matchT_len o bs)
  go_wp2_with (at_builtin; go_must (refine wpList_app_one (xs := matchT o bs) slz_int.slt rfl (.tmp 27) (.tmp 30) rfl rfl (hM.alloc _) (le_alloc hsz2 _) rfl (heap_alloc_new _ _) (Fresh.leaf (α := Int) (m := wt2.heap.size) (own_intm (bs.length : Int) (by unfold I64; omega) _)) hsz2 (by have := HML.out; omega) (by have := HML.out; unfold maxLen; omega) ?_); intro ap2 cp2 wp2 hGp)
  have hml := HML.out
  have hQ := hGp.fresh
  rw [show matchT o bs ++ [(bs.length : Int)] = pairsT o bs from rfl] at hQ
  have hbq := (hb2.alloc hsz2 _).trans hGp.below
  have hszq := hbq.size
  obtain ⟨qs, hqs⟩ : ∃ qs, qs = pairsT o bs := ⟨_, rfl⟩
  have hql : qs.length = o.length + 1 := by rw [hqs, pairsT_len]
  have hinc2 : incM (bs.length + 1) 0 qs := by rw [hqs]; exact matchT_inc o bs
  have HQ := Lib.hid hqs
  rw [← hqs, hml, ← hql] at hQ
  rw [hml, ← hql]
  have HQL := Lib.hid hql
  have hP2 := (hP.below (Nat.le_refl _) hbq)
  have hbp2 := hbp1.trans (hbq.mono hszp1)
  clear hqs hml hql hGp hM hb2 HML hP hbq hbp1 hsz1 hsz2
  obtain ⟨wp, hwp⟩ : ∃ wp, wp = wp2.alloc (.cells #[.slice none 0 0] 42) := ⟨_, rfl⟩
  obtain ⟨bx, hbx⟩ : ∃ bx, bx = wp2.heap.size := ⟨_, rfl⟩
  have hB0 : Below wp2.heap.size wp2 wp := by rw [hwp]; exact (Below.refl _ _).alloc (Nat.le_refl _) _
  have hwz : wp.heap.size = bx + 1 := by rw [hwp, hbx]; simp
  have hbh0 : wp.heap[bx]? = some (.cells (List.toArray [.slice none 0 0]) 42 (0, 0)) := by rw [hwp, hbx]; exact heap_alloc_new _ _
  have hFB0 : FS (fun k => k = bx ∨ wp.heap.size ≤ k) wp [.pointer (some ⟨bx, 0, none⟩)] (⟨[]⟩ : Box (List Part)) :=
    (FS.box hbh0 (FS.leaf (T := fun _ => False) (show Go.Vc.Own.own [] wp [.slice none 0 0] ([] : List Part) from ⟨_, [], [], rfl, World.ownsRow_nil _ _ _ _, rfl, trivial, by decide⟩)) (fun h => h)).mono (fun k hk _ => by rcases hk with hk | hk; exact .inl hk; exact hk.elim)
  have hPs := ((rd_slice_of hP2.rd2).2).frame (w' := wp) (S' := fun k => k < bx) (fun k hk _ => ⟨hB0.block k (by omega), by omega⟩)
  have hQs := ((rd_slice_of hQ.rd2).2).frame (w' := wp) (S' := fun k => k < bx) (fun k hk _ => ⟨hB0.block k (by omega), by omega⟩)
  have hbp := hbp2.trans (hB0.mono hbp2.size)
  have hszp := hbp.size
  have hbx0 : w.heap.size ≤ bx := by rw [hbx]; exact hbp2.size
  have HW := Lib.hid hwp
  have HBX := Lib.hid hbx
  clear hP2 hQ hwp hbp2 hB0 hbh0 hszq hszp1
  clear hbx
  go_wp2
  rw [← HW.out, ← HBX.out]
  go_loopw [11, 12, 13, 35] (fun fo fa fb i wr => (∃ (k f p q : Nat) (out : List Part), k ≤ ps.length ∧ f ≤ k ∧ p ≤ as_.length + 1 ∧ q ≤ bs.length + 1 ∧ i = .int .i64 k ∧ fo = .int .i64 f ∧ fa = .int .i64 p ∧ fb = .int .i64 q ∧ FS (fun k => k = bx ∨ wp.heap.size ≤ k) wr [.pointer (some ⟨bx, 0, none⟩)] (⟨out⟩ : Box (List Part)) ∧ SmallP out (11 * k) ∧
      Hid (incM (as_.length + 1) p (ps.drop k)) ∧ Hid (incM (bs.length + 1) q (qs.drop k)) ∧ Hid (mergeT o as_ bs = mg o as_ bs (ps.drop k) (qs.drop k) k f p q out)) ∧ TouchF [bx] wp wr) (fun _ _ _ i _ => ps.length - (intOf i).toNat)
  case atStart => exact ⟨⟨0, 0, 0, 0, [], by omega, by omega, by omega, by omega, rfl, rfl, rfl, rfl, hFB0, SmallP.nil _, hinc, hinc2, by show _ = _; rw [HP.out, HQ.out]; rfl⟩, TouchF.refl _ _⟩
  case round =>
    obtain ⟨⟨k, f, p, q, out, hk, hf, hp, hq, rfl, rfl, rfl, rfl, hFB, hsm, HI, HJ, HD⟩, hT⟩ := hrel
    obtain ⟨wo, rfl⟩ : ∃ wo : World, wo = wr := ⟨_, rfl⟩
    have hszr := hT.size
    by_cases hlt : k < ps.length
    · have hkx : k ≤ o.length := by have := HPL.out; omega
      have hlt1 : k < o.length + 1 := by omega
      have hltq : k < qs.length := by have := HQL.out; omega
      have hPr := hPs.frame (w' := wo) (S' := fun k => k < bx) (fun k hk hl => ⟨hT.rest k hl (by simp; omega), hk⟩)
      have hQr := hQs.frame (w' := wo) (S' := fun k => k < bx) (fun k hk hl => ⟨hT.rest k hl (by simp; omega), hk⟩)
      obtain ⟨g, off, rfl, hc, _⟩ := hPr.int hlt
      obtain ⟨g', off', rfl, hc', _⟩ := hQr.int hltq
      rcases incM_at HI.out hlt with ⟨he, hI⟩ | ⟨n, he, hqm, hmy, hI⟩
      · have HN := Lib.hid (mg_neg HD.out hlt hltq (.inl (by rw [he]; omega)))
        have HI2 := Lib.hid hI
        rw [he] at hc
        have HJ2 : Hid (incM (bs.length + 1) q (qs.drop (k + 1))) := by
          show incM _ _ _
          rcases incM_at HJ.out hltq with ⟨_, h⟩ | ⟨m, _, h1, _, h2⟩
          · exact h
          · exact incM_lo (by omega) h2
        clear he hI
        go_wp2
        go_roundw
        case rel => exact ⟨⟨k + 1, f, p, q, out, by omega, by omega, hp, hq, by go_num, rfl, rfl, rfl, hFB, hsm.mono (by omega), HI2.out, HJ2.out, HN.out⟩, hT⟩
        case measure => simp [intOf]; omega
      · rcases incM_at HJ.out hltq with ⟨he', hJ⟩ | ⟨m, he', hqm', hmy', hJ⟩
        · have HN := Lib.hid (mg_neg HD.out hlt hltq (.inr (by rw [he']; omega)))
          have HI2 := Lib.hid (incM_lo (lo' := p) (by omega) hI)
          have HJ2 := Lib.hid hJ
          rw [he] at hc
          rw [he'] at hc'
          clear he he' hI hJ
          go_wp2
          go_roundw
          case rel => exact ⟨⟨k + 1, f, p, q, out, by omega, by omega, hp, hq, by go_num, rfl, rfl, rfl, hFB, hsm.mono (by omega), HI2.out, HJ2.out, HN.out⟩, hT⟩
          case measure => simp [intOf]; omega
        · have HX := Lib.hid (mg_put HD.out hlt hltq he he')
          have HI2 := Lib.hid hI
          have HJ2 := Lib.hid hJ
          have HEN := Lib.hid he
          have HEM := Lib.hid he'
          rw [he] at hc
          rw [he'] at hc'
          clear he he' hI hJ
          obtain ⟨c1, hc1⟩ : ∃ c1, c1 = cutF o f k := ⟨_, rfl⟩
          obtain ⟨c2, hc2⟩ : ∃ c2, c2 = cutF as_ p n := ⟨_, rfl⟩
          obtain ⟨c3, hc3⟩ : ∃ c3, c3 = cutF bs q m := ⟨_, rfl⟩
          rw [← hc1, ← hc2, ← hc3] at HX
          have hl1 : c1.length ≤ 10 := by rw [hc1]; have := cutF_le o f k; omega
          have hl2 : c2.length ≤ 10 := by rw [hc2]; have := cutF_le as_ p n; omega
          have hl3 : c3.length ≤ 10 := by rw [hc3]; have := cutF_le bs q m; omega
          have hrd1 : ∀ W, Below w.heap.size w W → rd (fun b => b < w.heap.size) W [.slice (cutA a cap f 1) (k - f) (cap - f)] c1 := fun W h => by rw [hc1]; exact cut_rd (hs.keep h) (by omega) (by omega)
          have hrd2 : ∀ W, Below w.heap.size w W → rd (fun b => b < w.heap.size) W [.slice (cutA b cbp p 1) (n - p) (cbp - p)] c2 := fun W h => by rw [hc2]; exact cut_rd (ht.keep h) (by omega) (by omega)
          have hrd3 : ∀ W, Below w.heap.size w W → rd (fun b => b < w.heap.size) W [.slice (cutA c ccp q 1) (m - q) (ccp - q)] c3 := fun W h => by rw [hc3]; exact cut_rd (hz.keep h) (by omega) (by omega)
          have R1 := Lib.hid hrd1
          have R2 := Lib.hid hrd2
          have R3 := Lib.hid hrd3
          have hct1 := cut_nat a o.length cap f k (by omega) (by omega) hcap
          have hct2 := cut_nat b as_.length cbp p n (by omega) (by omega) hcbp
          have hct3 := cut_nat c bs.length ccp q m (by omega) (by omega) hccp
          have hc := BW.cell hc
          have hc' := BW.cell hc'
          obtain ⟨out1, ho1⟩ : ∃ out1, out1 = pieceG out c1 c2 c3 := ⟨_, rfl⟩
          rw [← ho1] at HX
          have HS1 := Lib.hid (show SmallP out1 (11 * k + 10) by rw [ho1]; exact hsm.pieceG hl1 hl2 hl3)
          have HSM := Lib.hid hsm
          clear hc1 hc2 hc3 hrd1 hrd2 hrd3 hsm
          go_wp2
          refine wp_region_bw (by kernel_rfl) (by kernel_rfl) ?_
          repeat (go_big_quiet_step (fail))
          refine wpQuiet_nil ?_
          rintro w1 ⟨⟨_, hbw⟩, rfl⟩
          have hFB := hFB.below hbw (fun _ _ h => h)
          have hT := hT.more hbw
          clear hbw hc hc' hct1 hct2 hct3
          obtain ⟨W0, rfl⟩ : ∃ W0 : World, W0 = w1 := ⟨_, rfl⟩
          have hbW : Below w.heap.size w W0 := hbp.trans (hT.below hszp (by intro x hx; simp at hx; omega))
          have hszr := hT.size
          by_cases e1 : c2 = c1
          · have HO1 : Hid (out1 = putL out c3) := by show _ = _; rw [ho1]; exact pieceG_two (.inl e1)
            have e1d : decide (c2 = c1) = true := decide_eq_true e1
            clear ho1 e1
            go_wp2_with fail
            refine (slicesEqual_is _ _ _ _ _ (R2.out _ hbW) (R1.out _ hbW) e1d).mono ?_
            rintro e wz1 ⟨rfl, nn, hnn⟩
            have hbn1 := below_drewN (Below.refl W0.heap.size W0) nn
            rw [← hnn] at hbn1
            clear hnn
            have hFB := hFB.below hbn1 (fun _ _ h => h)
            have hT := hT.more hbn1
            clear hbn1 hbW hszr
            obtain ⟨W0, rfl⟩ : ∃ W0 : World, W0 = wz1 := ⟨_, rfl⟩
            have hbW : Below w.heap.size w W0 := hbp.trans (hT.below hszp (by intro x hx; simp at hx; omega))
            have hszr := hT.size
            clear e1d
            go_wp2_with fail
            refine (resolve_any _ c3 bx out _ (R3.out _ hbW) (by intro x hx hS; omega) hFB (HSM.out.mono (by omega)) (by omega)).mono ?_
            rintro e W1 ⟨rfl, hFz, hBz, hrz⟩
            have hT1 := hT.next hBz hrz
            have hF1 := hFz.mono (T := fun x => x = bx ∨ wp.heap.size ≤ x) (fun x hx _ => by rcases hx with hx | hx; exact hx; exact .inr (by omega))
            rw [← HO1.out] at hF1
            clear hFz hBz hrz hFB
            have hbW1 : Below w.heap.size w W1 := hbp.trans (hT1.below hszp (by intro x hx; simp at hx; omega))
            have hszW := hT1.size
            by_cases ho : k < o.length
            · have HO := Lib.hid (show SmallP (putL out1 [o[k]]) (11 * k + 11) ∧ mergeT o as_ bs = mg o as_ bs (ps.drop (k + 1)) (qs.drop (k + 1)) (k + 1) (k + 1) (n + 1) (m + 1) (putL out1 [o[k]]) from
                ⟨(HS1.out.putL (m := 1) (by simp) (by omega)).mono (by omega), by have := HX.out; rw [putO_in ho] at this; exact this⟩)
              have hsr := cut_rd (hs.keep hbW1) (f := k) (i := k + 1) (by omega) (by omega)
              rw [show cutF o k (k + 1) = [o[k]] by unfold cutF; rw [drop_cons o k ho, show k + 1 - k = 1 by omega]; rfl, show k + 1 - k = 1 by omega, cutA, if_neg (by omega : ¬ cap = k), Nat.mul_one] at hsr
              obtain ⟨lo, hlo1⟩ : ∃ lo, lo = [o[k]] := ⟨_, rfl⟩
              rw [← hlo1] at HO hsr
              have hlo2 : lo.length ≤ 1000 := by rw [hlo1]; simp
              clear hlo1
              go_wp2_with fail
              refine (resolve_any _ lo bx out1 _ hsr (by intro x hx hS; omega) hF1 (HS1.out.mono (by omega)) hlo2).mono ?_
              rintro e wf ⟨rfl, hFz, hBz, hrz⟩
              have hTf := hT1.next hBz hrz
              have hFf := hFz.mono (T := fun x => x = bx ∨ wp.heap.size ≤ x) (fun x hx _ => by rcases hx with hx | hx; exact hx; exact .inr (by omega))
              clear hFz hBz hrz hsr hF1
              have hPf := hPs.frame (w' := wf) (S' := fun k => k < bx) (fun k hk hl => ⟨hTf.rest k hl (by simp; omega), hk⟩)
              have hQf := hQs.frame (w' := wf) (S' := fun k => k < bx) (fun k hk hl => ⟨hTf.rest k hl (by simp; omega), hk⟩)
              obtain ⟨gf, of, ef, kf, _⟩ := hPf.int hlt
              obtain ⟨gf', of', ef', kf', _⟩ := hQf.int hltq
              obtain ⟨rfl, rfl⟩ : gf = g ∧ of = off := by simpa [eq_comm] using ef
              obtain ⟨rfl, rfl⟩ : gf' = g' ∧ of' = off' := by simpa [eq_comm] using ef'
              rw [HEN.out] at kf
              rw [HEM.out] at kf'
              have kf := BW.cell kf
              have kf' := BW.cell kf'
              have f1 : IntKind.i64.wrap ((k : Int) + 1) = (k : Int) + 1 := IntWalk.i64_in _ (by omega)
              have f2 : IntKind.i64.wrap ((n : Int) + 1) = (n : Int) + 1 := IntWalk.i64_in _ (by omega)
              have f3 : IntKind.i64.wrap ((m : Int) + 1) = (m : Int) + 1 := IntWalk.i64_in _ (by omega)
              clear ef ef'
              go_wp2
              refine wp_region_bw (by kernel_rfl) (by kernel_rfl) ?_
              repeat (go_big_quiet_step (fail))
              refine wpQuiet_nil ?_
              rintro w1 ⟨⟨_, hbw⟩, rfl⟩
              have hFe := hFf.below hbw (fun _ _ h => h)
              have hTe := hTf.more hbw
              clear hbw kf kf' f1 f2 f3
              go_wp2
              go_roundw
              case rel => exact ⟨⟨k + 1, k + 1, n + 1, m + 1, _, by omega, by omega, by omega, by omega, by go_num, by go_num, by go_num, by go_num, hFe, HO.out.1.mono (by omega), HI2.out, HJ2.out, HO.out.2⟩, hTe⟩
              case measure => simp [intOf]; omega
            · have HO := Lib.hid (show SmallP out1 (11 * k + 11) ∧ mergeT o as_ bs = mg o as_ bs (ps.drop (k + 1)) (qs.drop (k + 1)) (k + 1) (k + 1) (n + 1) (m + 1) out1 from
                ⟨HS1.out.mono (by omega), by have := HX.out; rw [putO_end ho] at this; exact this⟩)
              obtain ⟨wf, rfl⟩ : ∃ wf : World, wf = W1 := ⟨_, rfl⟩
              have hFf := hF1
              have hTf := hT1
              have hPf := hPs.frame (w' := wf) (S' := fun k => k < bx) (fun k hk hl => ⟨hTf.rest k hl (by simp; omega), hk⟩)
              have hQf := hQs.frame (w' := wf) (S' := fun k => k < bx) (fun k hk hl => ⟨hTf.rest k hl (by simp; omega), hk⟩)
              obtain ⟨gf, of, ef, kf, _⟩ := hPf.int hlt
              obtain ⟨gf', of', ef', kf', _⟩ := hQf.int hltq
              obtain ⟨rfl, rfl⟩ : gf = g ∧ of = off := by simpa [eq_comm] using ef
              obtain ⟨rfl, rfl⟩ : gf' = g' ∧ of' = off' := by simpa [eq_comm] using ef'
              rw [HEN.out] at kf
              rw [HEM.out] at kf'
              have kf := BW.cell kf
              have kf' := BW.cell kf'
              have f1 : IntKind.i64.wrap ((k : Int) + 1) = (k : Int) + 1 := IntWalk.i64_in _ (by omega)
              have f2 : IntKind.i64.wrap ((n : Int) + 1) = (n : Int) + 1 := IntWalk.i64_in _ (by omega)
              have f3 : IntKind.i64.wrap ((m : Int) + 1) = (m : Int) + 1 := IntWalk.i64_in _ (by omega)
              clear ef ef'
              go_wp2
              refine wp_region_bw (by kernel_rfl) (by kernel_rfl) ?_
              repeat (go_big_quiet_step (fail))
              refine wpQuiet_nil ?_
              rintro w1 ⟨⟨_, hbw⟩, rfl⟩
              have hFe := hFf.below hbw (fun _ _ h => h)
              have hTe := hTf.more hbw
              clear hbw kf kf' f1 f2 f3
              go_wp2
              go_roundw
              case rel => exact ⟨⟨k + 1, k + 1, n + 1, m + 1, _, by omega, by omega, by omega, by omega, by go_num, by go_num, by go_num, by go_num, hFe, HO.out.1.mono (by omega), HI2.out, HJ2.out, HO.out.2⟩, hTe⟩
              case measure => simp [intOf]; omega
          · have e1d : decide (c2 = c1) = false := decide_eq_false e1
            go_wp2_with fail
            refine (slicesEqual_is _ _ _ _ _ (R2.out _ hbW) (R1.out _ hbW) e1d).mono ?_
            rintro e wz1 ⟨rfl, nn, hnn⟩
            have hbn1 := below_drewN (Below.refl W0.heap.size W0) nn
            rw [← hnn] at hbn1
            clear hnn
            have hFB := hFB.below hbn1 (fun _ _ h => h)
            have hT := hT.more hbn1
            clear hbn1 hbW hszr
            obtain ⟨W0, rfl⟩ : ∃ W0 : World, W0 = wz1 := ⟨_, rfl⟩
            have hbW : Below w.heap.size w W0 := hbp.trans (hT.below hszp (by intro x hx; simp at hx; omega))
            have hszr := hT.size
            by_cases e2 : c2 = c3
            · have HO1 : Hid (out1 = putL out c3) := by show _ = _; rw [ho1]; exact pieceG_two (.inr e2)
              have e2d : decide (c2 = c3) = true := decide_eq_true e2
              clear ho1 e1 e2
              go_wp2_with fail
              refine (slicesEqual_is _ _ _ _ _ (R2.out _ hbW) (R3.out _ hbW) e2d).mono ?_
              rintro e wz2 ⟨rfl, nn, hnn⟩
              have hbn2 := below_drewN (Below.refl W0.heap.size W0) nn
              rw [← hnn] at hbn2
              clear hnn
              have hFB := hFB.below hbn2 (fun _ _ h => h)
              have hT := hT.more hbn2
              clear hbn2 hbW hszr
              obtain ⟨W0, rfl⟩ : ∃ W0 : World, W0 = wz2 := ⟨_, rfl⟩
              have hbW : Below w.heap.size w W0 := hbp.trans (hT.below hszp (by intro x hx; simp at hx; omega))
              have hszr := hT.size
              clear e1d e2d
              go_wp2_with fail
              refine (resolve_any _ c3 bx out _ (R3.out _ hbW) (by intro x hx hS; omega) hFB (HSM.out.mono (by omega)) (by omega)).mono ?_
              rintro e W1 ⟨rfl, hFz, hBz, hrz⟩
              have hT1 := hT.next hBz hrz
              have hF1 := hFz.mono (T := fun x => x = bx ∨ wp.heap.size ≤ x) (fun x hx _ => by rcases hx with hx | hx; exact hx; exact .inr (by omega))
              rw [← HO1.out] at hF1
              clear hFz hBz hrz hFB
              have hbW1 : Below w.heap.size w W1 := hbp.trans (hT1.below hszp (by intro x hx; simp at hx; omega))
              have hszW := hT1.size
              by_cases ho : k < o.length
              · have HO := Lib.hid (show SmallP (putL out1 [o[k]]) (11 * k + 11) ∧ mergeT o as_ bs = mg o as_ bs (ps.drop (k + 1)) (qs.drop (k + 1)) (k + 1) (k + 1) (n + 1) (m + 1) (putL out1 [o[k]]) from
                  ⟨(HS1.out.putL (m := 1) (by simp) (by omega)).mono (by omega), by have := HX.out; rw [putO_in ho] at this; exact this⟩)
                have hsr := cut_rd (hs.keep hbW1) (f := k) (i := k + 1) (by omega) (by omega)
                rw [show cutF o k (k + 1) = [o[k]] by unfold cutF; rw [drop_cons o k ho, show k + 1 - k = 1 by omega]; rfl, show k + 1 - k = 1 by omega, cutA, if_neg (by omega : ¬ cap = k), Nat.mul_one] at hsr
                obtain ⟨lo, hlo1⟩ : ∃ lo, lo = [o[k]] := ⟨_, rfl⟩
                rw [← hlo1] at HO hsr
                have hlo2 : lo.length ≤ 1000 := by rw [hlo1]; simp
                clear hlo1
                go_wp2_with fail
                refine (resolve_any _ lo bx out1 _ hsr (by intro x hx hS; omega) hF1 (HS1.out.mono (by omega)) hlo2).mono ?_
                rintro e wf ⟨rfl, hFz, hBz, hrz⟩
                have hTf := hT1.next hBz hrz
                have hFf := hFz.mono (T := fun x => x = bx ∨ wp.heap.size ≤ x) (fun x hx _ => by rcases hx with hx | hx; exact hx; exact .inr (by omega))
                clear hFz hBz hrz hsr hF1
                have hPf := hPs.frame (w' := wf) (S' := fun k => k < bx) (fun k hk hl => ⟨hTf.rest k hl (by simp; omega), hk⟩)
                have hQf := hQs.frame (w' := wf) (S' := fun k => k < bx) (fun k hk hl => ⟨hTf.rest k hl (by simp; omega), hk⟩)
                obtain ⟨gf, of, ef, kf, _⟩ := hPf.int hlt
                obtain ⟨gf', of', ef', kf', _⟩ := hQf.int hltq
                obtain ⟨rfl, rfl⟩ : gf = g ∧ of = off := by simpa [eq_comm] using ef
                obtain ⟨rfl, rfl⟩ : gf' = g' ∧ of' = off' := by simpa [eq_comm] using ef'
                rw [HEN.out] at kf
                rw [HEM.out] at kf'
                have kf := BW.cell kf
                have kf' := BW.cell kf'
                have f1 : IntKind.i64.wrap ((k : Int) + 1) = (k : Int) + 1 := IntWalk.i64_in _ (by omega)
                have f2 : IntKind.i64.wrap ((n : Int) + 1) = (n : Int) + 1 := IntWalk.i64_in _ (by omega)
                have f3 : IntKind.i64.wrap ((m : Int) + 1) = (m : Int) + 1 := IntWalk.i64_in _ (by omega)
                clear ef ef'
                go_wp2
                refine wp_region_bw (by kernel_rfl) (by kernel_rfl) ?_
                repeat (go_big_quiet_step (fail))
                refine wpQuiet_nil ?_
                rintro w1 ⟨⟨_, hbw⟩, rfl⟩
                have hFe := hFf.below hbw (fun _ _ h => h)
                have hTe := hTf.more hbw
                clear hbw kf kf' f1 f2 f3
                go_wp2
                go_roundw
                case rel => exact ⟨⟨k + 1, k + 1, n + 1, m + 1, _, by omega, by omega, by omega, by omega, by go_num, by go_num, by go_num, by go_num, hFe, HO.out.1.mono (by omega), HI2.out, HJ2.out, HO.out.2⟩, hTe⟩
                case measure => simp [intOf]; omega
              · have HO := Lib.hid (show SmallP out1 (11 * k + 11) ∧ mergeT o as_ bs = mg o as_ bs (ps.drop (k + 1)) (qs.drop (k + 1)) (k + 1) (k + 1) (n + 1) (m + 1) out1 from
                  ⟨HS1.out.mono (by omega), by have := HX.out; rw [putO_end ho] at this; exact this⟩)
                obtain ⟨wf, rfl⟩ : ∃ wf : World, wf = W1 := ⟨_, rfl⟩
                have hFf := hF1
                have hTf := hT1
                have hPf := hPs.frame (w' := wf) (S' := fun k => k < bx) (fun k hk hl => ⟨hTf.rest k hl (by simp; omega), hk⟩)
                have hQf := hQs.frame (w' := wf) (S' := fun k => k < bx) (fun k hk hl => ⟨hTf.rest k hl (by simp; omega), hk⟩)
                obtain ⟨gf, of, ef, kf, _⟩ := hPf.int hlt
                obtain ⟨gf', of', ef', kf', _⟩ := hQf.int hltq
                obtain ⟨rfl, rfl⟩ : gf = g ∧ of = off := by simpa [eq_comm] using ef
                obtain ⟨rfl, rfl⟩ : gf' = g' ∧ of' = off' := by simpa [eq_comm] using ef'
                rw [HEN.out] at kf
                rw [HEM.out] at kf'
                have kf := BW.cell kf
                have kf' := BW.cell kf'
                have f1 : IntKind.i64.wrap ((k : Int) + 1) = (k : Int) + 1 := IntWalk.i64_in _ (by omega)
                have f2 : IntKind.i64.wrap ((n : Int) + 1) = (n : Int) + 1 := IntWalk.i64_in _ (by omega)
                have f3 : IntKind.i64.wrap ((m : Int) + 1) = (m : Int) + 1 := IntWalk.i64_in _ (by omega)
                clear ef ef'
                go_wp2
                refine wp_region_bw (by kernel_rfl) (by kernel_rfl) ?_
                repeat (go_big_quiet_step (fail))
                refine wpQuiet_nil ?_
                rintro w1 ⟨⟨_, hbw⟩, rfl⟩
                have hFe := hFf.below hbw (fun _ _ h => h)
                have hTe := hTf.more hbw
                clear hbw kf kf' f1 f2 f3
                go_wp2
                go_roundw
                case rel => exact ⟨⟨k + 1, k + 1, n + 1, m + 1, _, by omega, by omega, by omega, by omega, by go_num, by go_num, by go_num, by go_num, hFe, HO.out.1.mono (by omega), HI2.out, HJ2.out, HO.out.2⟩, hTe⟩
                case measure => simp [intOf]; omega
            · have e2d : decide (c2 = c3) = false := decide_eq_false e2
              go_wp2_with fail
              refine (slicesEqual_is _ _ _ _ _ (R2.out _ hbW) (R3.out _ hbW) e2d).mono ?_
              rintro e wz2 ⟨rfl, nn, hnn⟩
              have hbn2 := below_drewN (Below.refl W0.heap.size W0) nn
              rw [← hnn] at hbn2
              clear hnn
              have hFB := hFB.below hbn2 (fun _ _ h => h)
              have hT := hT.more hbn2
              clear hbn2 hbW hszr
              obtain ⟨W0, rfl⟩ : ∃ W0 : World, W0 = wz2 := ⟨_, rfl⟩
              have hbW : Below w.heap.size w W0 := hbp.trans (hT.below hszp (by intro x hx; simp at hx; omega))
              have hszr := hT.size
              by_cases e3 : c3 = c1
              · have HO1 : Hid (out1 = putL out c2) := by show _ = _; rw [ho1]; exact pieceG_one (fun h => by rcases h with h | h; exact e1 h; exact e2 h) e3
                have e3d : decide (c3 = c1) = true := decide_eq_true e3
                clear ho1 e1 e2 e3
                go_wp2_with fail
                refine (slicesEqual_is _ _ _ _ _ (R3.out _ hbW) (R1.out _ hbW) e3d).mono ?_
                rintro e wz3 ⟨rfl, nn, hnn⟩
                have hbn3 := below_drewN (Below.refl W0.heap.size W0) nn
                rw [← hnn] at hbn3
                clear hnn
                have hFB := hFB.below hbn3 (fun _ _ h => h)
                have hT := hT.more hbn3
                clear hbn3 hbW hszr
                obtain ⟨W0, rfl⟩ : ∃ W0 : World, W0 = wz3 := ⟨_, rfl⟩
                have hbW : Below w.heap.size w W0 := hbp.trans (hT.below hszp (by intro x hx; simp at hx; omega))
                have hszr := hT.size
                clear e1d e2d e3d
                go_wp2_with fail
                refine (resolve_any _ c2 bx out _ (R2.out _ hbW) (by intro x hx hS; omega) hFB (HSM.out.mono (by omega)) (by omega)).mono ?_
                rintro e W1 ⟨rfl, hFz, hBz, hrz⟩
                have hT1 := hT.next hBz hrz
                have hF1 := hFz.mono (T := fun x => x = bx ∨ wp.heap.size ≤ x) (fun x hx _ => by rcases hx with hx | hx; exact hx; exact .inr (by omega))
                rw [← HO1.out] at hF1
                clear hFz hBz hrz hFB
                have hbW1 : Below w.heap.size w W1 := hbp.trans (hT1.below hszp (by intro x hx; simp at hx; omega))
                have hszW := hT1.size
                by_cases ho : k < o.length
                · have HO := Lib.hid (show SmallP (putL out1 [o[k]]) (11 * k + 11) ∧ mergeT o as_ bs = mg o as_ bs (ps.drop (k + 1)) (qs.drop (k + 1)) (k + 1) (k + 1) (n + 1) (m + 1) (putL out1 [o[k]]) from
                    ⟨(HS1.out.putL (m := 1) (by simp) (by omega)).mono (by omega), by have := HX.out; rw [putO_in ho] at this; exact this⟩)
                  have hsr := cut_rd (hs.keep hbW1) (f := k) (i := k + 1) (by omega) (by omega)
                  rw [show cutF o k (k + 1) = [o[k]] by unfold cutF; rw [drop_cons o k ho, show k + 1 - k = 1 by omega]; rfl, show k + 1 - k = 1 by omega, cutA, if_neg (by omega : ¬ cap = k), Nat.mul_one] at hsr
                  obtain ⟨lo, hlo1⟩ : ∃ lo, lo = [o[k]] := ⟨_, rfl⟩
                  rw [← hlo1] at HO hsr
                  have hlo2 : lo.length ≤ 1000 := by rw [hlo1]; simp
                  clear hlo1
                  go_wp2_with fail
                  refine (resolve_any _ lo bx out1 _ hsr (by intro x hx hS; omega) hF1 (HS1.out.mono (by omega)) hlo2).mono ?_
                  rintro e wf ⟨rfl, hFz, hBz, hrz⟩
                  have hTf := hT1.next hBz hrz
                  have hFf := hFz.mono (T := fun x => x = bx ∨ wp.heap.size ≤ x) (fun x hx _ => by rcases hx with hx | hx; exact hx; exact .inr (by omega))
                  clear hFz hBz hrz hsr hF1
                  have hPf := hPs.frame (w' := wf) (S' := fun k => k < bx) (fun k hk hl => ⟨hTf.rest k hl (by simp; omega), hk⟩)
                  have hQf := hQs.frame (w' := wf) (S' := fun k => k < bx) (fun k hk hl => ⟨hTf.rest k hl (by simp; omega), hk⟩)
                  obtain ⟨gf, of, ef, kf, _⟩ := hPf.int hlt
                  obtain ⟨gf', of', ef', kf', _⟩ := hQf.int hltq
                  obtain ⟨rfl, rfl⟩ : gf = g ∧ of = off := by simpa [eq_comm] using ef
                  obtain ⟨rfl, rfl⟩ : gf' = g' ∧ of' = off' := by simpa [eq_comm] using ef'
                  rw [HEN.out] at kf
                  rw [HEM.out] at kf'
                  have kf := BW.cell kf
                  have kf' := BW.cell kf'
                  have f1 : IntKind.i64.wrap ((k : Int) + 1) = (k : Int) + 1 := IntWalk.i64_in _ (by omega)
                  have f2 : IntKind.i64.wrap ((n : Int) + 1) = (n : Int) + 1 := IntWalk.i64_in _ (by omega)
                  have f3 : IntKind.i64.wrap ((m : Int) + 1) = (m : Int) + 1 := IntWalk.i64_in _ (by omega)
                  clear ef ef'
                  go_wp2
                  refine wp_region_bw (by kernel_rfl) (by kernel_rfl) ?_
                  repeat (go_big_quiet_step (fail))
                  refine wpQuiet_nil ?_
                  rintro w1 ⟨⟨_, hbw⟩, rfl⟩
                  have hFe := hFf.below hbw (fun _ _ h => h)
                  have hTe := hTf.more hbw
                  clear hbw kf kf' f1 f2 f3
                  go_wp2
                  go_roundw
                  case rel => exact ⟨⟨k + 1, k + 1, n + 1, m + 1, _, by omega, by omega, by omega, by omega, by go_num, by go_num, by go_num, by go_num, hFe, HO.out.1.mono (by omega), HI2.out, HJ2.out, HO.out.2⟩, hTe⟩
                  case measure => simp [intOf]; omega
                · have HO := Lib.hid (show SmallP out1 (11 * k + 11) ∧ mergeT o as_ bs = mg o as_ bs (ps.drop (k + 1)) (qs.drop (k + 1)) (k + 1) (k + 1) (n + 1) (m + 1) out1 from
                    ⟨HS1.out.mono (by omega), by have := HX.out; rw [putO_end ho] at this; exact this⟩)
                  obtain ⟨wf, rfl⟩ : ∃ wf : World, wf = W1 := ⟨_, rfl⟩
                  have hFf := hF1
                  have hTf := hT1
                  have hPf := hPs.frame (w' := wf) (S' := fun k => k < bx) (fun k hk hl => ⟨hTf.rest k hl (by simp; omega), hk⟩)
                  have hQf := hQs.frame (w' := wf) (S' := fun k => k < bx) (fun k hk hl => ⟨hTf.rest k hl (by simp; omega), hk⟩)
                  obtain ⟨gf, of, ef, kf, _⟩ := hPf.int hlt
                  obtain ⟨gf', of', ef', kf', _⟩ := hQf.int hltq
                  obtain ⟨rfl, rfl⟩ : gf = g ∧ of = off := by simpa [eq_comm] using ef
                  obtain ⟨rfl, rfl⟩ : gf' = g' ∧ of' = off' := by simpa [eq_comm] using ef'
                  rw [HEN.out] at kf
                  rw [HEM.out] at kf'
                  have kf := BW.cell kf
                  have kf' := BW.cell kf'
                  have f1 : IntKind.i64.wrap ((k : Int) + 1) = (k : Int) + 1 := IntWalk.i64_in _ (by omega)
                  have f2 : IntKind.i64.wrap ((n : Int) + 1) = (n : Int) + 1 := IntWalk.i64_in _ (by omega)
                  have f3 : IntKind.i64.wrap ((m : Int) + 1) = (m : Int) + 1 := IntWalk.i64_in _ (by omega)
                  clear ef ef'
                  go_wp2
                  refine wp_region_bw (by kernel_rfl) (by kernel_rfl) ?_
                  repeat (go_big_quiet_step (fail))
                  refine wpQuiet_nil ?_
                  rintro w1 ⟨⟨_, hbw⟩, rfl⟩
                  have hFe := hFf.below hbw (fun _ _ h => h)
                  have hTe := hTf.more hbw
                  clear hbw kf kf' f1 f2 f3
                  go_wp2
                  go_roundw
                  case rel => exact ⟨⟨k + 1, k + 1, n + 1, m + 1, _, by omega, by omega, by omega, by omega, by go_num, by go_num, by go_num, by go_num, hFe, HO.out.1.mono (by omega), HI2.out, HJ2.out, HO.out.2⟩, hTe⟩
                  case measure => simp [intOf]; omega
              · have HO1 : Hid (out1 = out ++ [⟨true, [], c1, c2, c3⟩]) := by show _ = _; rw [ho1]; exact pieceG_clash (fun h => by rcases h with h | h; exact e1 h; exact e2 h) e3
                have e3d : decide (c3 = c1) = false := decide_eq_false e3
                clear ho1 e1 e2 e3
                go_wp2_with fail
                refine (slicesEqual_is _ _ _ _ _ (R3.out _ hbW) (R1.out _ hbW) e3d).mono ?_
                rintro e wz3 ⟨rfl, nn, hnn⟩
                have hbn3 := below_drewN (Below.refl W0.heap.size W0) nn
                rw [← hnn] at hbn3
                clear hnn
                have hFB := hFB.below hbn3 (fun _ _ h => h)
                have hT := hT.more hbn3
                clear hbn3 hbW hszr
                obtain ⟨W0, rfl⟩ : ∃ W0 : World, W0 = wz3 := ⟨_, rfl⟩
                have hbW : Below w.heap.size w W0 := hbp.trans (hT.below hszp (by intro x hx; simp at hx; omega))
                have hszr := hT.size
                clear e1d e2d e3d
                obtain ⟨cs, te, hbh, hF0, _⟩ := hFB.unbox
                obtain ⟨ao, co, rfl, hO⟩ := hF0.rd
                obtain ⟨hq0, hfq⟩ := box_cell hbh
                have hF0 := hF0.mono (T := fun x => wp.heap.size ≤ x ∧ x < W0.heap.size) (fun x hx hl => by have hx : (x = bx ∨ wp.heap.size ≤ x) ∧ x ≠ bx := hx; omega)
                have hol := HSM.out.1
                have hbl : bx < W0.heap.size := (Array.getElem?_eq_some_iff.1 hbh).1
                have hqd : W0.drew.cell? ⟨bx, 0, none⟩ = some (.slice ao out.length co) := hq0
                have HQD := Lib.hid hqd
                clear hO hFB hqd
                go_wp2_with fail
                go_region_law (first
                  | (go_simp; go_at_call 33; with_reducible refine (copyText_any _ c1 _ (Rep.drew (R1.out _ hbW)) (by omega)).mono ?_; rintro e wA ⟨aA, cA, rfl, hA, hbA⟩; have hszA := hbA.size; have hqA := keepc HQD.out hbA; have hbWA := hbW.drew.trans (hbA.mono hbW.drew.size))
                  | (go_simp; go_at_call 33; with_reducible refine (copyText_any _ c2 _ (R2.out _ hbWA) (by omega)).mono ?_; rintro e wB ⟨aB, cB, rfl, hB, hbB⟩; have hszB := hbB.size; have hqB := keepc hqA hbB; have hbWB := hbWA.trans (hbB.mono hbWA.size))
                  | (go_simp; go_at_call 33; with_reducible refine (copyText_any _ c3 _ (R3.out _ hbWB) (by omega)).mono ?_; rintro e wC ⟨aC, cC, rfl, hC, hbC⟩; have hszC := hbC.size; have hqC := keepc hqB hbC; have hblC : bx < wC.heap.size := by simp at hszA; omega)
                  | (go_must (refine step_app_oneS slz_part.slt rfl (.tmp 68) (.tmp 76) rfl rfl ((((hF0.drew.below hbA (fun _ _ h => h)).below hbB (fun _ _ h => h)).below hbC (fun _ _ h => h)).alloc _) rfl (heap_alloc_new _ _) (((Fresh.partC ((hA.below (Nat.le_refl _) hbB).below (Nat.le_refl _) hbC) (hB.below (Nat.le_refl _) hbC) hC hszA hszB hszC).fs).alloc _) (fun x h1 h2 _ => by have h3 : wp.heap.size ≤ x ∧ x < W0.heap.size := h1; have h4 : W0.drew.heap.size ≤ x ∧ x < wC.heap.size := h2; simp at h4; omega) (by omega) (by unfold maxLen; omega) ?_); intro a9 c9 w9 hF9 hb9 hr9; have hq9 : w9.cell? ⟨bx, 0, none⟩ = some _ := (World.cell?_of_block (w := wC) ((hr9 bx (by simp; omega) (by intro h; have h3 : wp.heap.size ≤ bx ∧ bx < W0.heap.size := h; omega)).trans (Below.heap_alloc _ _ _ hblC))).trans hqC; have hfq9 : w9.frozen? ⟨bx, 0, none⟩ = false := (World.frozen?_of_block (w := W0) ((((hr9 bx (by simp; omega) (by intro h; have h3 : wp.heap.size ≤ bx ∧ bx < W0.heap.size := h; omega)).trans (Below.heap_alloc _ _ _ hblC)).trans (hbC.block bx (by simp at hszA; omega))).trans ((hbB.block bx (by simp at hszA; omega)).trans (hbA.block bx (by simp; omega))))).trans hfq))
                all_goals
                  have hTC : TouchF [bx] wp wC := ((((hT.more (Below.refl _ _).drew)).more hbA).more hbB).more hbC
                  have hT9 : TouchF [bx] wp w9 := hTC.next (((Below.refl 0 wC).alloc (Nat.zero_le _) _).trans (hb9 0 (Nat.zero_le _) (fun _ _ _ => Nat.zero_le _))) (fun x hx hn => (hr9 x (by simp; omega) (by intro h; have h3 : wp.heap.size ≤ x ∧ x < W0.heap.size := h; exact hn (.inr h3.1))).trans (Below.heap_alloc _ _ _ hx))
                  have hbh9 : w9.heap[bx]? = some (.cells (List.toArray [.slice ao out.length co]) te (0, 0)) := (((hr9 bx (by simp; omega) (by intro h; have h3 : wp.heap.size ≤ bx ∧ bx < W0.heap.size := h; omega)).trans (Below.heap_alloc _ _ _ hblC)).trans (hbC.block bx (by simp at hszA; omega))).trans (((hbB.block bx (by simp at hszA; omega)).trans (hbA.block bx (by simp; omega))).trans hbh)
                  have hF10 : FS (fun x => x = bx ∨ wp.heap.size ≤ x) (w9.setCell ⟨bx, 0, none⟩ (.slice a9 (out.length + 1) c9)) [.pointer (some ⟨bx, 0, none⟩)] (⟨out1⟩ : Box (List Part)) := by
                    have h1 := FS.setbox1 (te := te) hbh9 (hF9.mono (T := fun x => wp.heap.size ≤ x) (fun x hx _ => by rcases hx with hx | hx | hx; exact hx.1; exact (by have h4 : W0.drew.heap.size ≤ x ∧ x < wC.heap.size := hx; simp at h4; omega); simp at hx hszA; omega)) (by omega)
                    rw [← HO1.out] at h1
                    exact h1
                  have hT10 : TouchF [bx] wp (w9.setCell ⟨bx, 0, none⟩ (.slice a9 (out.length + 1) c9)) := hT9.setCell (.inl (by simp)) _
                  clear hF9 hb9 hr9 hbh9 hTC hT9
                  obtain ⟨W1, hW1⟩ : ∃ W1, W1 = w9.setCell ⟨bx, 0, none⟩ (.slice a9 (out.length + 1) c9) := ⟨_, rfl⟩
                  rw [← hW1] at hF10 hT10
                  have hF1 := hF10
                  have hT1 := hT10
                  have HW1 := Lib.hid hW1
                  clear hW1 hF10 hT10
                  have hbW1 : Below w.heap.size w W1 := hbp.trans (hT1.below hszp (by intro x hx; simp at hx; omega))
                  have hszW := hT1.size
                  by_cases ho : k < o.length
                  · have HO := Lib.hid (show SmallP (putL out1 [o[k]]) (11 * k + 11) ∧ mergeT o as_ bs = mg o as_ bs (ps.drop (k + 1)) (qs.drop (k + 1)) (k + 1) (k + 1) (n + 1) (m + 1) (putL out1 [o[k]]) from
                      ⟨(HS1.out.putL (m := 1) (by simp) (by omega)).mono (by omega), by have := HX.out; rw [putO_in ho] at this; exact this⟩)
                    have hsr := cut_rd (hs.keep hbW1) (f := k) (i := k + 1) (by omega) (by omega)
                    rw [show cutF o k (k + 1) = [o[k]] by unfold cutF; rw [drop_cons o k ho, show k + 1 - k = 1 by omega]; rfl, show k + 1 - k = 1 by omega, cutA, if_neg (by omega : ¬ cap = k), Nat.mul_one] at hsr
                    obtain ⟨lo, hlo1⟩ : ∃ lo, lo = [o[k]] := ⟨_, rfl⟩
                    rw [← hlo1] at HO hsr
                    have hlo2 : lo.length ≤ 1000 := by rw [hlo1]; simp
                    clear hlo1
                    go_wp2_with fail
                    rw [← HW1.out]
                    refine (resolve_any _ lo bx out1 _ hsr (by intro x hx hS; omega) hF1 (HS1.out.mono (by omega)) hlo2).mono ?_
                    rintro e wf ⟨rfl, hFz, hBz, hrz⟩
                    have hTf := hT1.next hBz hrz
                    have hFf := hFz.mono (T := fun x => x = bx ∨ wp.heap.size ≤ x) (fun x hx _ => by rcases hx with hx | hx; exact hx; exact .inr (by omega))
                    clear hFz hBz hrz hsr hF1
                    have hPf := hPs.frame (w' := wf) (S' := fun k => k < bx) (fun k hk hl => ⟨hTf.rest k hl (by simp; omega), hk⟩)
                    have hQf := hQs.frame (w' := wf) (S' := fun k => k < bx) (fun k hk hl => ⟨hTf.rest k hl (by simp; omega), hk⟩)
                    obtain ⟨gf, of, ef, kf, _⟩ := hPf.int hlt
                    obtain ⟨gf', of', ef', kf', _⟩ := hQf.int hltq
                    obtain ⟨rfl, rfl⟩ : gf = g ∧ of = off := by simpa [eq_comm] using ef
                    obtain ⟨rfl, rfl⟩ : gf' = g' ∧ of' = off' := by simpa [eq_comm] using ef'
                    rw [HEN.out] at kf
                    rw [HEM.out] at kf'
                    have kf := BW.cell kf
                    have kf' := BW.cell kf'
                    have f1 : IntKind.i64.wrap ((k : Int) + 1) = (k : Int) + 1 := IntWalk.i64_in _ (by omega)
                    have f2 : IntKind.i64.wrap ((n : Int) + 1) = (n : Int) + 1 := IntWalk.i64_in _ (by omega)
                    have f3 : IntKind.i64.wrap ((m : Int) + 1) = (m : Int) + 1 := IntWalk.i64_in _ (by omega)
                    clear ef ef'
                    go_wp2
                    refine wp_region_bw (by kernel_rfl) (by kernel_rfl) ?_
                    repeat (go_big_quiet_step (fail))
                    refine wpQuiet_nil ?_
                    rintro w1 ⟨⟨_, hbw⟩, rfl⟩
                    have hFe := hFf.below hbw (fun _ _ h => h)
                    have hTe := hTf.more hbw
                    clear hbw kf kf' f1 f2 f3
                    go_wp2
                    go_roundw
                    case rel => exact ⟨⟨k + 1, k + 1, n + 1, m + 1, _, by omega, by omega, by omega, by omega, by go_num, by go_num, by go_num, by go_num, hFe, HO.out.1.mono (by omega), HI2.out, HJ2.out, HO.out.2⟩, hTe⟩
                    case measure => simp [intOf]; omega
                  · have HO := Lib.hid (show SmallP out1 (11 * k + 11) ∧ mergeT o as_ bs = mg o as_ bs (ps.drop (k + 1)) (qs.drop (k + 1)) (k + 1) (k + 1) (n + 1) (m + 1) out1 from
                      ⟨HS1.out.mono (by omega), by have := HX.out; rw [putO_end ho] at this; exact this⟩)
                    obtain ⟨wf, rfl⟩ : ∃ wf : World, wf = W1 := ⟨_, rfl⟩
                    have hFf := hF1
                    have hTf := hT1
                    have hPf := hPs.frame (w' := wf) (S' := fun k => k < bx) (fun k hk hl => ⟨hTf.rest k hl (by simp; omega), hk⟩)
                    have hQf := hQs.frame (w' := wf) (S' := fun k => k < bx) (fun k hk hl => ⟨hTf.rest k hl (by simp; omega), hk⟩)
                    obtain ⟨gf, of, ef, kf, _⟩ := hPf.int hlt
                    obtain ⟨gf', of', ef', kf', _⟩ := hQf.int hltq
                    obtain ⟨rfl, rfl⟩ : gf = g ∧ of = off := by simpa [eq_comm] using ef
                    obtain ⟨rfl, rfl⟩ : gf' = g' ∧ of' = off' := by simpa [eq_comm] using ef'
                    rw [HEN.out] at kf
                    rw [HEM.out] at kf'
                    have kf := BW.cell kf
                    have kf' := BW.cell kf'
                    have f1 : IntKind.i64.wrap ((k : Int) + 1) = (k : Int) + 1 := IntWalk.i64_in _ (by omega)
                    have f2 : IntKind.i64.wrap ((n : Int) + 1) = (n : Int) + 1 := IntWalk.i64_in _ (by omega)
                    have f3 : IntKind.i64.wrap ((m : Int) + 1) = (m : Int) + 1 := IntWalk.i64_in _ (by omega)
                    clear ef ef'
                    go_wp2
                    rw [← HW1.out]
                    refine wp_region_bw (by kernel_rfl) (by kernel_rfl) ?_
                    repeat (go_big_quiet_step (fail))
                    refine wpQuiet_nil ?_
                    rintro w1 ⟨⟨_, hbw⟩, rfl⟩
                    have hFe := hFf.below hbw (fun _ _ h => h)
                    have hTe := hTf.more hbw
                    clear hbw kf kf' f1 f2 f3
                    go_wp2
                    go_roundw
                    case rel => exact ⟨⟨k + 1, k + 1, n + 1, m + 1, _, by omega, by omega, by omega, by omega, by go_num, by go_num, by go_num, by go_num, hFe, HO.out.1.mono (by omega), HI2.out, HJ2.out, HO.out.2⟩, hTe⟩
                    case measure => simp [intOf]; omega
    · have hbW : Below w.heap.size w wo := hbp.trans (hT.below hszp (by intro x hx; simp at hx; omega))
      have HE := Lib.hid (mg_end HD.out hlt)
      have hlt2 : ¬ k < o.length + 1 := by have := HPL.out; omega
      obtain ⟨cs, te, hbh, hF0, _⟩ := hFB.unbox
      obtain ⟨ao, co, rfl, hO⟩ := hF0.rd
      obtain ⟨hq0, hfq⟩ := box_cell hbh
      go_wp2
      go_ret
      exact ⟨_, rfl, by rw [HE.out]; exact hF0.fresh (fun x hx hl => by have hx : (x = bx ∨ wp.heap.size ≤ x) ∧ x ≠ bx := hx; omega), hbW⟩
end Go.Proofs.Ytlpfoekbccbhlaa
