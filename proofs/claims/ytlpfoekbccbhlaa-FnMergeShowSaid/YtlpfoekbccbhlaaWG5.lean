/-
  Walks: the merge, as the reference has it.
-/
import Derived.Test.YtlpfoekbccbhlaaWG4
import Derived.Test.YtlpfoekbccbhlaaWM2
set_option linter.unusedVariables false
namespace Go.Proofs.Ytlpfoekbccbhlaa
open Go.RowKit Go.Vc
open Go.Vc.Rep (rd)
open Go.Vc.Own (own)

set_option maxHeartbeats 4000000 in
set_option maxRecDepth 100000 in
theorem l3Of_any {S T U : Nat → Prop} (v u x : Value) (o as_ bs : List ByteArray) (w : World) (hv : rd S w [v] o) (hu : rd T w [u] as_) (hx : rd U w [x] bs) (hlo : o.length ≤ 10) (hla : as_.length ≤ 10) (hlb : bs.length ≤ 10) :
    Calls Try.prog 38 #[v, u, x] w fun e w' => ∃ v', e = .returned v' ∧ Fresh w.heap.size w'.heap.size w' [v'] (mergeT o as_ bs) ∧ Below w.heap.size w w' := by
  obtain ⟨a, cap, rfl, hs⟩ := rd_slice_elim (Rep.lt hv)
  obtain ⟨b, cbp, rfl, ht⟩ := rd_slice_elim (Rep.lt hu)
  obtain ⟨c, ccp, rfl, hz⟩ := rd_slice_elim (Rep.lt hx)
  have hcap := hs.1
  have hcbp := ht.1
  have hccp := hz.1
  have hb0 : Below w.heap.size w (w.alloc (.cells #[] (Tid.tid Part))) := (Below.refl _ _).alloc (Nat.le_refl _) _
  go_enter Try.func38, Try.ntmps38
  go_wp2_with fail
  refine (l1Match_any _ _ o as_ _ (hs.alloc _).rd (ht.alloc _).rd hlo hla).mono ?_
  rintro e wt1 ⟨v1, rfl, hM, hb1⟩
  obtain ⟨am, cm, rfl, _⟩ := hM.shape
  have hM := hM.mono (B' := w.heap.size + 1) (by simp) (Nat.le_refl _)
  have hb1 : Below (w.heap.size + 1) (w.alloc (.cells #[] (Tid.tid Part))) wt1 := hb1.mono (by simp)
  have hsz1 := hb1.size
  simp at hsz1
  have HML := Lib.hid (matchT_len o as_)
  go_wp2_with (at_builtin; go_must (refine wpList_app_one (xs := matchT o as_) slz_int.slt rfl (.tmp 17) (.tmp 20) rfl rfl (hM.alloc _) (le_alloc (by omega) _) rfl (heap_alloc_new _ _) (Fresh.leaf (α := Int) (m := wt1.heap.size) (own_intm (as_.length : Int) (by unfold I64; omega) _)) (by omega) (by have := HML.out; omega) (by have := HML.out; unfold maxLen; omega) ?_); intro ap cp wp1 hGp)
  have hml := HML.out
  have hP := hGp.fresh
  rw [show matchT o as_ ++ [(as_.length : Int)] = pairsT o as_ from rfl] at hP
  have hbp1 : Below (w.heap.size + 1) (w.alloc (.cells #[] (Tid.tid Part))) wp1 := (hb1.alloc (by omega) _).trans hGp.below
  have hszp1 := hbp1.size
  simp at hszp1
  obtain ⟨ps, hps⟩ : ∃ ps, ps = pairsT o as_ := ⟨_, rfl⟩
  have hpl : ps.length = o.length + 1 := by rw [hps, pairsT_len]
  have hinc : incM (as_.length + 1) 0 ps := by rw [hps]; exact matchT_inc o as_
  have HP := Lib.hid hps
  rw [← hps, hml, ← hpl] at hP
  rw [hml, ← hpl]
  have HPL := Lib.hid hpl
  have hbw1 := hb0.trans (hbp1.mono (by omega))
  clear hps hml hpl hGp hM hb1 HML
  refine (l1Match_any _ _ o bs _ (hs.keep hbw1).rd (hz.keep hbw1).rd hlo hlb).mono ?_
  rintro e wt2 ⟨v2, rfl, hM, hb2⟩
  obtain ⟨am2, cm2, rfl, _⟩ := hM.shape
  have hsz2 := hb2.size
  have HML := Lib.hid (matchT_len o bs)
  go_wp2_with (at_builtin; go_must (refine wpList_app_one (xs := matchT o bs) slz_int.slt rfl (.tmp 24) (.tmp 27) rfl rfl (hM.alloc _) (le_alloc hsz2 _) rfl (heap_alloc_new _ _) (Fresh.leaf (α := Int) (m := wt2.heap.size) (own_intm (bs.length : Int) (by unfold I64; omega) _)) hsz2 (by have := HML.out; omega) (by have := HML.out; unfold maxLen; omega) ?_); intro ap2 cp2 wp hGp)
  have hml := HML.out
  have hQ := hGp.fresh
  rw [show matchT o bs ++ [(bs.length : Int)] = pairsT o bs from rfl] at hQ
  have hbq := (hb2.alloc hsz2 _).trans hGp.below
  have hszq := hbq.size
  obtain ⟨qs, hqs⟩ : ∃ qs, qs = pairsT o bs := ⟨_, rfl⟩
  have hql : qs.length = o.length + 1 := by rw [hqs, pairsT_len]
  have hinc2 : incM (bs.length + 1) 0 qs := by rw [hqs]; exact matchT_inc o bs
  have HQ := Lib.hid hqs
  rw [← hqs, hml, ← hql] at hQ
  rw [hml, ← hql]
  have HQL := Lib.hid hql
  have hP2 := (hP.below (Nat.le_refl _) hbq)
  have hbp2 : Below (w.heap.size + 1) (w.alloc (.cells #[] (Tid.tid Part))) wp := hbp1.trans (hbq.mono (by omega))
  have hbp := hb0.trans (hbp2.mono (by omega))
  have hszp := hbp.size
  have hszp2 : w.heap.size + 1 ≤ wp.heap.size := by have := hbp2.size; simpa using this
  have hO0 : FS (fun k => k = w.heap.size) wp [.slice (some ⟨w.heap.size, 0, none⟩) 0 0] ([] : List Part) := FS.empty (by decide) ((hbp2.block w.heap.size (by omega)).trans (heap_alloc_new _ _))
  have hPs := ((rd_slice_of hP2.rd2).2).mono (S' := fun k => w.heap.size + 1 ≤ k ∧ k < wp.heap.size) (fun k hk => ⟨hk.1, by omega⟩)
  have hQs := ((rd_slice_of hQ.rd2).2).mono (S' := fun k => w.heap.size + 1 ≤ k ∧ k < wp.heap.size) (fun k hk => ⟨by omega, hk.2⟩)
  clear hqs hml hql hGp hM hb2 HML hP hQ hP2 hbq hbp1 hsz1 hsz2 hbp2 hbw1 hszq hszp1
  obtain ⟨bx, hbx⟩ : ∃ bx, bx = w.heap.size := ⟨_, rfl⟩
  go_wp2
  go_loopw [7, 10, 11, 12, 13] (fun out fo fa fb i wr => (∃ (k f p q : Nat) (ol : List Part) (ao : Option Addr) (co : Nat), k ≤ ps.length ∧ f ≤ k ∧ p ≤ as_.length + 1 ∧ q ≤ bs.length + 1 ∧ i = .int .i64 k ∧ fo = .int .i64 f ∧ fa = .int .i64 p ∧ fb = .int .i64 q ∧ out = .slice ao ol.length co ∧ FS (fun k => k = bx ∨ wp.heap.size ≤ k) wr [.slice ao ol.length co] ol ∧ SmallP ol (11 * k) ∧
      Hid (incM (as_.length + 1) p (ps.drop k)) ∧ Hid (incM (bs.length + 1) q (qs.drop k)) ∧ Hid (mergeT o as_ bs = mg o as_ bs (ps.drop k) (qs.drop k) k f p q ol)) ∧ TouchF [bx] wp wr) (fun _ _ _ _ i _ => ps.length - (intOf i).toNat)
  case atStart => exact ⟨⟨0, 0, 0, 0, [], some ⟨w.heap.size, 0, none⟩, 0, by omega, by omega, by omega, by omega, rfl, rfl, rfl, rfl, rfl, hO0.mono (fun k hk _ => .inl (by rw [hbx]; exact hk)), SmallP.nil _, hinc, hinc2, by show _ = _; rw [HP.out, HQ.out]; rfl⟩, TouchF.refl _ _⟩
  case round =>
    obtain ⟨⟨k, f, p, q, out, ao, co, hk, hf, hp, hq, rfl, rfl, rfl, rfl, rfl, hFB, hsm, HI, HJ, HD⟩, hT⟩ := hrel
    obtain ⟨wo, rfl⟩ : ∃ wo : World, wo = wr := ⟨_, rfl⟩
    have hszr := hT.size
    by_cases hlt : k < ps.length
    · have hkx : k ≤ o.length := by have := HPL.out; omega
      have hlt1 : k < o.length + 1 := by omega
      have hltq : k < qs.length := by have := HQL.out; omega
      have hPr := hPs.frame (w' := wo) (S' := fun k => w.heap.size + 1 ≤ k ∧ k < wp.heap.size) (fun k hk hl => ⟨hT.rest k hl (by simp; omega), hk⟩)
      have hQr := hQs.frame (w' := wo) (S' := fun k => w.heap.size + 1 ≤ k ∧ k < wp.heap.size) (fun k hk hl => ⟨hT.rest k hl (by simp; omega), hk⟩)
      obtain ⟨g, off, rfl, hc, _⟩ := hPr.int hlt
      obtain ⟨g', off', rfl, hc', _⟩ := hQr.int hltq
      rcases incM_at HI.out hlt with ⟨he, hI⟩ | ⟨n, he, hqm, hmy, hI⟩
      · have HN := Lib.hid (mg_neg HD.out hlt hltq (.inl (by rw [he]; omega)))
        have HI2 := Lib.hid hI
        rw [he] at hc
        have HJ2 : Hid (incM (bs.length + 1) q (qs.drop (k + 1))) := by
          show incM _ _ _
          rcases incM_at HJ.out hltq with ⟨_, h⟩ | ⟨m, _, h1, _, h2⟩
          · exact h
          · exact incM_lo (by omega) h2
        clear he hI
        go_wp2
        go_roundw
        case rel => exact ⟨⟨k + 1, f, p, q, out, ao, co, by omega, by omega, hp, hq, by go_num, rfl, rfl, rfl, rfl, hFB, hsm.mono (by omega), HI2.out, HJ2.out, HN.out⟩, hT⟩
        case measure => simp [intOf]; omega
      · rcases incM_at HJ.out hltq with ⟨he', hJ⟩ | ⟨m, he', hqm', hmy', hJ⟩
        · have HN := Lib.hid (mg_neg HD.out hlt hltq (.inr (by rw [he']; omega)))
          have HI2 := Lib.hid (incM_lo (lo' := p) (by omega) hI)
          have HJ2 := Lib.hid hJ
          rw [he] at hc
          rw [he'] at hc'
          clear he he' hI hJ
          go_wp2
          go_roundw
          case rel => exact ⟨⟨k + 1, f, p, q, out, ao, co, by omega, by omega, hp, hq, by go_num, rfl, rfl, rfl, rfl, hFB, hsm.mono (by omega), HI2.out, HJ2.out, HN.out⟩, hT⟩
          case measure => simp [intOf]; omega
        · have HX := Lib.hid (mg_put HD.out hlt hltq he he')
          have HI2 := Lib.hid hI
          have HJ2 := Lib.hid hJ
          have HEN := Lib.hid he
          have HEM := Lib.hid he'
          rw [he] at hc
          rw [he'] at hc'
          clear he he' hI hJ
          obtain ⟨c1, hc1⟩ : ∃ c1, c1 = cutF o f k := ⟨_, rfl⟩
          obtain ⟨c2, hc2⟩ : ∃ c2, c2 = cutF as_ p n := ⟨_, rfl⟩
          obtain ⟨c3, hc3⟩ : ∃ c3, c3 = cutF bs q m := ⟨_, rfl⟩
          rw [← hc1, ← hc2, ← hc3] at HX
          have hl1 : c1.length ≤ 10 := by rw [hc1]; have := cutF_le o f k; omega
          have hl2 : c2.length ≤ 10 := by rw [hc2]; have := cutF_le as_ p n; omega
          have hl3 : c3.length ≤ 10 := by rw [hc3]; have := cutF_le bs q m; omega
          have hrd1 : ∀ W, Below w.heap.size w W → rd (fun b => b < w.heap.size) W [.slice (cutA a cap f 1) (k - f) (cap - f)] c1 := fun W h => by rw [hc1]; exact cut_rd (hs.keep h) (by omega) (by omega)
          have hrd2 : ∀ W, Below w.heap.size w W → rd (fun b => b < w.heap.size) W [.slice (cutA b cbp p 1) (n - p) (cbp - p)] c2 := fun W h => by rw [hc2]; exact cut_rd (ht.keep h) (by omega) (by omega)
          have hrd3 : ∀ W, Below w.heap.size w W → rd (fun b => b < w.heap.size) W [.slice (cutA c ccp q 1) (m - q) (ccp - q)] c3 := fun W h => by rw [hc3]; exact cut_rd (hz.keep h) (by omega) (by omega)
          have R1 := Lib.hid hrd1
          have R2 := Lib.hid hrd2
          have R3 := Lib.hid hrd3
          have hct1 := cut_nat a o.length cap f k (by omega) (by omega) hcap
          have hct2 := cut_nat b as_.length cbp p n (by omega) (by omega) hcbp
          have hct3 := cut_nat c bs.length ccp q m (by omega) (by omega) hccp
          obtain ⟨out1, ho1⟩ : ∃ out1, out1 = pieceG out c1 c2 c3 := ⟨_, rfl⟩
          rw [← ho1] at HX
          have HS1 := Lib.hid (show SmallP out1 (11 * k + 10) by rw [ho1]; exact hsm.pieceG hl1 hl2 hl3)
          have HSM := Lib.hid hsm
          clear hc1 hc2 hc3 hrd1 hrd2 hrd3 hsm
          have hbW : Below w.heap.size w wo := hbp.trans (hT.below hszp (by intro x hx; simp at hx; omega))
          have hF0 := hFB.mono (T := fun x => (x = bx ∨ wp.heap.size ≤ x) ∧ x < wo.heap.size) (fun x hx hl => ⟨hx, hl⟩)
          clear hFB
          by_cases e1 : c2 = c1 ∨ c2 = c3
          · have HO1 : Hid (out1 = putL out c3) := by show _ = _; rw [ho1]; exact pieceG_two e1
            clear ho1
            go_wp2_with fail
            go_region_law (first
              | (go_simp; go_at_call 53; with_reducible refine (l3PartL_any _ _ _ c1 c2 c3 c3 _ (R1.out _ hbW.drew) (R2.out _ hbW.drew) (R3.out _ hbW.drew) hbW.drew.size (by omega) (by omega) (.inl ⟨e1, rfl⟩)).mono ?_; rintro e wL ⟨a1, c1', rfl, hP1, hb1⟩; have hszL := hb1.size)
              | (go_simp; go_at_call 52; go_must (refine (l3PutL_any _ out c3 _ (hF0.drew.below hb1 (fun _ _ h => h)) hP1.fs (fun x h1 => by have h3 : (x = bx ∨ wp.heap.size ≤ x) ∧ x < wo.heap.size := h1; simp at hszL; omega) (fun x h1 h2 _ => by have h3 : (x = bx ∨ wp.heap.size ≤ x) ∧ x < wo.heap.size := h1; have h4 : wo.drew.heap.size ≤ x ∧ x < wL.heap.size := h2; simp at h4; omega) (HSM.out.mono (by omega)) (by omega)).mono ?_); rintro e W1 ⟨v1, rfl, hFz, hBz, hrz⟩))
            all_goals
              clear hc hc' hct1 hct2 hct3
              obtain ⟨a1o, c1o, rfl, _⟩ := rd_slice_elim hFz.rd
              have hT1 : TouchF [bx] wp W1 := ((hT.more (Below.refl _ _).drew).more hb1).next hBz (fun x hx hn => hrz x hx (by intro h; have h3 : (x = bx ∨ wp.heap.size ≤ x) ∧ x < wo.heap.size := h; exact hn h3.1))
              have hF1 := hFz.mono (T := fun x => x = bx ∨ wp.heap.size ≤ x) (fun x hx _ => by rcases hx with hx | hx | hx; exact hx.1; exact .inr (by have h4 : wo.drew.heap.size ≤ x ∧ x < wL.heap.size := hx; simp at h4; omega); simp at hszL; exact .inr (by omega))
              rw [← HO1.out] at hF1
              rw [← HO1.out]
              clear hFz hBz hrz hb1 hP1
              have hbW1 : Below w.heap.size w W1 := hbp.trans (hT1.below hszp (by intro x hx; simp at hx; omega))
              have hszW := hT1.size
              by_cases ho : k < o.length
              · have HO := Lib.hid (show SmallP (putL out1 [o[k]]) (11 * k + 11) ∧ mergeT o as_ bs = mg o as_ bs (ps.drop (k + 1)) (qs.drop (k + 1)) (k + 1) (k + 1) (n + 1) (m + 1) (putL out1 [o[k]]) from
                  ⟨(HS1.out.putL (m := 1) (by simp) (by omega)).mono (by omega), by have := HX.out; rw [putO_in ho] at this; exact this⟩)
                obtain ⟨go, oo, rfl, hco, hso⟩ := (hs.keep hbW1).str ho
                have hlit : Fresh W1.heap.size (W1.heap.size + 1) (W1.alloc (.cells #[.string o[k]] (Tid.tid ByteArray))) [.slice (some ⟨W1.heap.size, 0, none⟩) 1 1] [o[k]] := by
                  have := Fresh.lit rfl W1.heap.size W1 (Nat.le_refl _) [.string o[k]] [o[k]] rfl (by unfold maxLen; simp) (fun i hi u hu => by
                    have hi0 : i = 0 := by simpa using hi
                    subst hi0
                    simp at hu
                    subst hu
                    exact ⟨rfl, rfl, hso⟩)
                  exact this
                obtain ⟨lo, hlo1⟩ : ∃ lo, lo = [o[k]] := ⟨_, rfl⟩
                have hlo3 : lo.length = 1 := by rw [hlo1]; rfl
                rw [← hlo1] at HO hlit
                have HLO := Lib.hid hlo3
                have hlp := (Fresh.partL hlit).fs
                have hlp : FS (fun b => W1.heap.size ≤ b ∧ b < W1.heap.size + 1) (W1.alloc (.cells #[.string o[k]] (Tid.tid ByteArray))) [.bool false, .slice (some ⟨W1.heap.size, 0, none⟩) lo.length 1, .slice none 0 0, .slice none 0 0, .slice none 0 0] (⟨false, lo, [], [], []⟩ : Part) := by rw [hlo3]; exact hlp
                have hbnd : ∀ x, ((x = bx ∨ wp.heap.size ≤ x) ∧ x < W1.heap.size) → x < (W1.alloc (.cells #[.string o[k]] (Tid.tid ByteArray))).heap.size := fun x h3 => by simp; omega
                have hput := l3PutL_any _ out1 lo (w := W1.alloc (.cells #[.string o[k]] (Tid.tid ByteArray))) ((hF1.mono (T := fun x => (x = bx ∨ wp.heap.size ≤ x) ∧ x < W1.heap.size) (fun x hx hl => ⟨hx, hl⟩)).alloc _) hlp hbnd (fun x h1 h2 _ => by have h3 : (x = bx ∨ wp.heap.size ≤ x) ∧ x < W1.heap.size := h1; have h4 : W1.heap.size ≤ x ∧ x < W1.heap.size + 1 := h2; omega) (HS1.out.mono (by omega)) (by omega)
                rw [hlo3] at hput
                clear hlo3 hlo1 hlp hlit
                go_wp2_with fail
                refine hput.mono ?_
                rintro e wf ⟨vf, rfl, hFz, hBz, hrz⟩
                obtain ⟨af, cf, rfl, _⟩ := rd_slice_elim hFz.rd
                have hTf : TouchF [bx] wp wf := hT1.next (((Below.refl 0 W1).alloc (Nat.zero_le _) _).trans hBz) (fun x hx hn => (hrz x (by simp; omega) (by intro h; have h3 : (x = bx ∨ wp.heap.size ≤ x) ∧ x < W1.heap.size := h; exact hn h3.1)).trans (Below.heap_alloc _ _ _ hx))
                have hFf := hFz.mono (T := fun x => x = bx ∨ wp.heap.size ≤ x) (fun x hx _ => by rcases hx with hx | hx | hx; exact hx.1; exact .inr (by have h4 : W1.heap.size ≤ x ∧ x < W1.heap.size + 1 := hx; omega); simp at hx; exact .inr (by omega))
                clear hFz hBz hrz hput hF1
                have hPf := hPs.frame (w' := wf) (S' := fun k => w.heap.size + 1 ≤ k ∧ k < wp.heap.size) (fun k hk hl => ⟨hTf.rest k hl (by simp; omega), hk⟩)
                have hQf := hQs.frame (w' := wf) (S' := fun k => w.heap.size + 1 ≤ k ∧ k < wp.heap.size) (fun k hk hl => ⟨hTf.rest k hl (by simp; omega), hk⟩)
                obtain ⟨gf, of, ef, kf, _⟩ := hPf.int hlt
                obtain ⟨gf', of', ef', kf', _⟩ := hQf.int hltq
                obtain ⟨rfl, rfl⟩ : gf = g ∧ of = off := by simpa [eq_comm] using ef
                obtain ⟨rfl, rfl⟩ : gf' = g' ∧ of' = off' := by simpa [eq_comm] using ef'
                rw [HEN.out] at kf
                rw [HEM.out] at kf'
                clear ef ef'
                go_wp2
                go_roundw
                case rel => exact ⟨⟨k + 1, k + 1, n + 1, m + 1, _, _, _, by omega, by omega, by omega, by omega, by go_num, by go_num, by go_num, by go_num, rfl, hFf, HO.out.1.mono (by omega), HI2.out, HJ2.out, HO.out.2⟩, hTf⟩
                case measure => simp [intOf]; omega
              · have HO := Lib.hid (show SmallP out1 (11 * k + 11) ∧ mergeT o as_ bs = mg o as_ bs (ps.drop (k + 1)) (qs.drop (k + 1)) (k + 1) (k + 1) (n + 1) (m + 1) out1 from
                  ⟨HS1.out.mono (by omega), by have := HX.out; rw [putO_end ho] at this; exact this⟩)
                obtain ⟨wf, rfl⟩ : ∃ wf : World, wf = W1 := ⟨_, rfl⟩
                have hFf := hF1
                have hTf := hT1
                have hPf := hPs.frame (w' := wf) (S' := fun k => w.heap.size + 1 ≤ k ∧ k < wp.heap.size) (fun k hk hl => ⟨hTf.rest k hl (by simp; omega), hk⟩)
                have hQf := hQs.frame (w' := wf) (S' := fun k => w.heap.size + 1 ≤ k ∧ k < wp.heap.size) (fun k hk hl => ⟨hTf.rest k hl (by simp; omega), hk⟩)
                obtain ⟨gf, of, ef, kf, _⟩ := hPf.int hlt
                obtain ⟨gf', of', ef', kf', _⟩ := hQf.int hltq
                obtain ⟨rfl, rfl⟩ : gf = g ∧ of = off := by simpa [eq_comm] using ef
                obtain ⟨rfl, rfl⟩ : gf' = g' ∧ of' = off' := by simpa [eq_comm] using ef'
                rw [HEN.out] at kf
                rw [HEM.out] at kf'
                clear ef ef'
                go_wp2
                go_roundw
                case rel => exact ⟨⟨k + 1, k + 1, n + 1, m + 1, _, _, _, by omega, by omega, by omega, by omega, by go_num, by go_num, by go_num, by go_num, rfl, hFf, HO.out.1.mono (by omega), HI2.out, HJ2.out, HO.out.2⟩, hTf⟩
                case measure => simp [intOf]; omega
          · by_cases e3 : c3 = c1
            · have HO1 : Hid (out1 = putL out c2) := by show _ = _; rw [ho1]; exact pieceG_one e1 e3
              clear ho1
              go_wp2_with fail
              go_region_law (first
                | (go_simp; go_at_call 53; with_reducible refine (l3PartL_any _ _ _ c1 c2 c3 c2 _ (R1.out _ hbW.drew) (R2.out _ hbW.drew) (R3.out _ hbW.drew) hbW.drew.size (by omega) (by omega) (.inr ⟨e1, e3, rfl⟩)).mono ?_; rintro e wL ⟨a1, c1', rfl, hP1, hb1⟩; have hszL := hb1.size)
                | (go_simp; go_at_call 52; go_must (refine (l3PutL_any _ out c2 _ (hF0.drew.below hb1 (fun _ _ h => h)) hP1.fs (fun x h1 => by have h3 : (x = bx ∨ wp.heap.size ≤ x) ∧ x < wo.heap.size := h1; simp at hszL; omega) (fun x h1 h2 _ => by have h3 : (x = bx ∨ wp.heap.size ≤ x) ∧ x < wo.heap.size := h1; have h4 : wo.drew.heap.size ≤ x ∧ x < wL.heap.size := h2; simp at h4; omega) (HSM.out.mono (by omega)) (by omega)).mono ?_); rintro e W1 ⟨v1, rfl, hFz, hBz, hrz⟩))
              all_goals
                clear hc hc' hct1 hct2 hct3
                obtain ⟨a1o, c1o, rfl, _⟩ := rd_slice_elim hFz.rd
                have hT1 : TouchF [bx] wp W1 := ((hT.more (Below.refl _ _).drew).more hb1).next hBz (fun x hx hn => hrz x hx (by intro h; have h3 : (x = bx ∨ wp.heap.size ≤ x) ∧ x < wo.heap.size := h; exact hn h3.1))
                have hF1 := hFz.mono (T := fun x => x = bx ∨ wp.heap.size ≤ x) (fun x hx _ => by rcases hx with hx | hx | hx; exact hx.1; exact .inr (by have h4 : wo.drew.heap.size ≤ x ∧ x < wL.heap.size := hx; simp at h4; omega); simp at hszL; exact .inr (by omega))
                rw [← HO1.out] at hF1
                rw [← HO1.out]
                clear hFz hBz hrz hb1 hP1
                have hbW1 : Below w.heap.size w W1 := hbp.trans (hT1.below hszp (by intro x hx; simp at hx; omega))
                have hszW := hT1.size
                by_cases ho : k < o.length
                · have HO := Lib.hid (show SmallP (putL out1 [o[k]]) (11 * k + 11) ∧ mergeT o as_ bs = mg o as_ bs (ps.drop (k + 1)) (qs.drop (k + 1)) (k + 1) (k + 1) (n + 1) (m + 1) (putL out1 [o[k]]) from
                    ⟨(HS1.out.putL (m := 1) (by simp) (by omega)).mono (by omega), by have := HX.out; rw [putO_in ho] at this; exact this⟩)
                  obtain ⟨go, oo, rfl, hco, hso⟩ := (hs.keep hbW1).str ho
                  have hlit : Fresh W1.heap.size (W1.heap.size + 1) (W1.alloc (.cells #[.string o[k]] (Tid.tid ByteArray))) [.slice (some ⟨W1.heap.size, 0, none⟩) 1 1] [o[k]] := by
                    have := Fresh.lit rfl W1.heap.size W1 (Nat.le_refl _) [.string o[k]] [o[k]] rfl (by unfold maxLen; simp) (fun i hi u hu => by
                      have hi0 : i = 0 := by simpa using hi
                      subst hi0
                      simp at hu
                      subst hu
                      exact ⟨rfl, rfl, hso⟩)
                    exact this
                  obtain ⟨lo, hlo1⟩ : ∃ lo, lo = [o[k]] := ⟨_, rfl⟩
                  have hlo3 : lo.length = 1 := by rw [hlo1]; rfl
                  rw [← hlo1] at HO hlit
                  have HLO := Lib.hid hlo3
                  have hlp := (Fresh.partL hlit).fs
                  have hlp : FS (fun b => W1.heap.size ≤ b ∧ b < W1.heap.size + 1) (W1.alloc (.cells #[.string o[k]] (Tid.tid ByteArray))) [.bool false, .slice (some ⟨W1.heap.size, 0, none⟩) lo.length 1, .slice none 0 0, .slice none 0 0, .slice none 0 0] (⟨false, lo, [], [], []⟩ : Part) := by rw [hlo3]; exact hlp
                  have hbnd : ∀ x, ((x = bx ∨ wp.heap.size ≤ x) ∧ x < W1.heap.size) → x < (W1.alloc (.cells #[.string o[k]] (Tid.tid ByteArray))).heap.size := fun x h3 => by simp; omega
                  have hput := l3PutL_any _ out1 lo (w := W1.alloc (.cells #[.string o[k]] (Tid.tid ByteArray))) ((hF1.mono (T := fun x => (x = bx ∨ wp.heap.size ≤ x) ∧ x < W1.heap.size) (fun x hx hl => ⟨hx, hl⟩)).alloc _) hlp hbnd (fun x h1 h2 _ => by have h3 : (x = bx ∨ wp.heap.size ≤ x) ∧ x < W1.heap.size := h1; have h4 : W1.heap.size ≤ x ∧ x < W1.heap.size + 1 := h2; omega) (HS1.out.mono (by omega)) (by omega)
                  rw [hlo3] at hput
                  clear hlo3 hlo1 hlp hlit
                  go_wp2_with fail
                  refine hput.mono ?_
                  rintro e wf ⟨vf, rfl, hFz, hBz, hrz⟩
                  obtain ⟨af, cf, rfl, _⟩ := rd_slice_elim hFz.rd
                  have hTf : TouchF [bx] wp wf := hT1.next (((Below.refl 0 W1).alloc (Nat.zero_le _) _).trans hBz) (fun x hx hn => (hrz x (by simp; omega) (by intro h; have h3 : (x = bx ∨ wp.heap.size ≤ x) ∧ x < W1.heap.size := h; exact hn h3.1)).trans (Below.heap_alloc _ _ _ hx))
                  have hFf := hFz.mono (T := fun x => x = bx ∨ wp.heap.size ≤ x) (fun x hx _ => by rcases hx with hx | hx | hx; exact hx.1; exact .inr (by have h4 : W1.heap.size ≤ x ∧ x < W1.heap.size + 1 := hx; omega); simp at hx; exact .inr (by omega))
                  clear hFz hBz hrz hput hF1
                  have hPf := hPs.frame (w' := wf) (S' := fun k => w.heap.size + 1 ≤ k ∧ k < wp.heap.size) (fun k hk hl => ⟨hTf.rest k hl (by simp; omega), hk⟩)
                  have hQf := hQs.frame (w' := wf) (S' := fun k => w.heap.size + 1 ≤ k ∧ k < wp.heap.size) (fun k hk hl => ⟨hTf.rest k hl (by simp; omega), hk⟩)
                  obtain ⟨gf, of, ef, kf, _⟩ := hPf.int hlt
                  obtain ⟨gf', of', ef', kf', _⟩ := hQf.int hltq
                  obtain ⟨rfl, rfl⟩ : gf = g ∧ of = off := by simpa [eq_comm] using ef
                  obtain ⟨rfl, rfl⟩ : gf' = g' ∧ of' = off' := by simpa [eq_comm] using ef'
                  rw [HEN.out] at kf
                  rw [HEM.out] at kf'
                  clear ef ef'
                  go_wp2
                  go_roundw
                  case rel => exact ⟨⟨k + 1, k + 1, n + 1, m + 1, _, _, _, by omega, by omega, by omega, by omega, by go_num, by go_num, by go_num, by go_num, rfl, hFf, HO.out.1.mono (by omega), HI2.out, HJ2.out, HO.out.2⟩, hTf⟩
                  case measure => simp [intOf]; omega
                · have HO := Lib.hid (show SmallP out1 (11 * k + 11) ∧ mergeT o as_ bs = mg o as_ bs (ps.drop (k + 1)) (qs.drop (k + 1)) (k + 1) (k + 1) (n + 1) (m + 1) out1 from
                    ⟨HS1.out.mono (by omega), by have := HX.out; rw [putO_end ho] at this; exact this⟩)
                  obtain ⟨wf, rfl⟩ : ∃ wf : World, wf = W1 := ⟨_, rfl⟩
                  have hFf := hF1
                  have hTf := hT1
                  have hPf := hPs.frame (w' := wf) (S' := fun k => w.heap.size + 1 ≤ k ∧ k < wp.heap.size) (fun k hk hl => ⟨hTf.rest k hl (by simp; omega), hk⟩)
                  have hQf := hQs.frame (w' := wf) (S' := fun k => w.heap.size + 1 ≤ k ∧ k < wp.heap.size) (fun k hk hl => ⟨hTf.rest k hl (by simp; omega), hk⟩)
                  obtain ⟨gf, of, ef, kf, _⟩ := hPf.int hlt
                  obtain ⟨gf', of', ef', kf', _⟩ := hQf.int hltq
                  obtain ⟨rfl, rfl⟩ : gf = g ∧ of = off := by simpa [eq_comm] using ef
                  obtain ⟨rfl, rfl⟩ : gf' = g' ∧ of' = off' := by simpa [eq_comm] using ef'
                  rw [HEN.out] at kf
                  rw [HEM.out] at kf'
                  clear ef ef'
                  go_wp2
                  go_roundw
                  case rel => exact ⟨⟨k + 1, k + 1, n + 1, m + 1, _, _, _, by omega, by omega, by omega, by omega, by go_num, by go_num, by go_num, by go_num, rfl, hFf, HO.out.1.mono (by omega), HI2.out, HJ2.out, HO.out.2⟩, hTf⟩
                  case measure => simp [intOf]; omega
            · have HO1 : Hid (out1 = out ++ [⟨true, [], c1, c2, c3⟩]) := by show _ = _; rw [ho1]; exact pieceG_clash e1 e3
              clear ho1
              go_wp2_with fail
              go_region_law (first
                | (go_simp; go_at_call 53; go_must (refine (l3PartC_any _ _ _ c1 c2 c3 _ (R1.out _ hbW.drew) (R2.out _ hbW.drew) (R3.out _ hbW.drew) hbW.drew.size (by omega) (by omega) (by omega) (fun h => e1 (.inl h)) (fun h => e1 (.inr h)) e3).mono ?_); rintro e wL ⟨a2, d2, a3, d3, a4, d4, rfl, hP1, hb1⟩; have hszL := hb1.size)
                | (go_simp; go_at_call 52; go_must (refine (l3PutC_any _ out _ _ (hF0.drew.below hb1 (fun _ _ h => h)) hP1.fs (fun x h1 => by have h3 : (x = bx ∨ wp.heap.size ≤ x) ∧ x < wo.heap.size := h1; simp at hszL; omega) (fun x h1 h2 _ => by have h3 : (x = bx ∨ wp.heap.size ≤ x) ∧ x < wo.heap.size := h1; have h4 : wo.drew.heap.size ≤ x ∧ x < wL.heap.size := h2; simp at h4; omega) (HSM.out.mono (by omega))).mono ?_); rintro e W1 ⟨v1, rfl, hFz, hBz, hrz⟩))
              all_goals
                clear hc hc' hct1 hct2 hct3
                obtain ⟨a1o, c1o, rfl, _⟩ := rd_slice_elim hFz.rd
                have hT1 : TouchF [bx] wp W1 := ((hT.more (Below.refl _ _).drew).more hb1).next hBz (fun x hx hn => hrz x hx (by intro h; have h3 : (x = bx ∨ wp.heap.size ≤ x) ∧ x < wo.heap.size := h; exact hn h3.1))
                have hF1 := hFz.mono (T := fun x => x = bx ∨ wp.heap.size ≤ x) (fun x hx _ => by rcases hx with hx | hx | hx; exact hx.1; exact .inr (by have h4 : wo.drew.heap.size ≤ x ∧ x < wL.heap.size := hx; simp at h4; omega); simp at hszL; exact .inr (by omega))
                rw [← HO1.out] at hF1
                rw [← HO1.out]
                clear hFz hBz hrz hb1 hP1
                have hbW1 : Below w.heap.size w W1 := hbp.trans (hT1.below hszp (by intro x hx; simp at hx; omega))
                have hszW := hT1.size
                by_cases ho : k < o.length
                · have HO := Lib.hid (show SmallP (putL out1 [o[k]]) (11 * k + 11) ∧ mergeT o as_ bs = mg o as_ bs (ps.drop (k + 1)) (qs.drop (k + 1)) (k + 1) (k + 1) (n + 1) (m + 1) (putL out1 [o[k]]) from
                    ⟨(HS1.out.putL (m := 1) (by simp) (by omega)).mono (by omega), by have := HX.out; rw [putO_in ho] at this; exact this⟩)
                  obtain ⟨go, oo, rfl, hco, hso⟩ := (hs.keep hbW1).str ho
                  have hlit : Fresh W1.heap.size (W1.heap.size + 1) (W1.alloc (.cells #[.string o[k]] (Tid.tid ByteArray))) [.slice (some ⟨W1.heap.size, 0, none⟩) 1 1] [o[k]] := by
                    have := Fresh.lit rfl W1.heap.size W1 (Nat.le_refl _) [.string o[k]] [o[k]] rfl (by unfold maxLen; simp) (fun i hi u hu => by
                      have hi0 : i = 0 := by simpa using hi
                      subst hi0
                      simp at hu
                      subst hu
                      exact ⟨rfl, rfl, hso⟩)
                    exact this
                  obtain ⟨lo, hlo1⟩ : ∃ lo, lo = [o[k]] := ⟨_, rfl⟩
                  have hlo3 : lo.length = 1 := by rw [hlo1]; rfl
                  rw [← hlo1] at HO hlit
                  have HLO := Lib.hid hlo3
                  have hlp := (Fresh.partL hlit).fs
                  have hlp : FS (fun b => W1.heap.size ≤ b ∧ b < W1.heap.size + 1) (W1.alloc (.cells #[.string o[k]] (Tid.tid ByteArray))) [.bool false, .slice (some ⟨W1.heap.size, 0, none⟩) lo.length 1, .slice none 0 0, .slice none 0 0, .slice none 0 0] (⟨false, lo, [], [], []⟩ : Part) := by rw [hlo3]; exact hlp
                  have hbnd : ∀ x, ((x = bx ∨ wp.heap.size ≤ x) ∧ x < W1.heap.size) → x < (W1.alloc (.cells #[.string o[k]] (Tid.tid ByteArray))).heap.size := fun x h3 => by simp; omega
                  have hput := l3PutL_any _ out1 lo (w := W1.alloc (.cells #[.string o[k]] (Tid.tid ByteArray))) ((hF1.mono (T := fun x => (x = bx ∨ wp.heap.size ≤ x) ∧ x < W1.heap.size) (fun x hx hl => ⟨hx, hl⟩)).alloc _) hlp hbnd (fun x h1 h2 _ => by have h3 : (x = bx ∨ wp.heap.size ≤ x) ∧ x < W1.heap.size := h1; have h4 : W1.heap.size ≤ x ∧ x < W1.heap.size + 1 := h2; omega) (HS1.out.mono (by omega)) (by omega)
                  rw [hlo3] at hput
                  clear hlo3 hlo1 hlp hlit
                  go_wp2_with fail
                  refine hput.mono ?_
                  rintro e wf ⟨vf, rfl, hFz, hBz, hrz⟩
                  obtain ⟨af, cf, rfl, _⟩ := rd_slice_elim hFz.rd
                  have hTf : TouchF [bx] wp wf := hT1.next (((Below.refl 0 W1).alloc (Nat.zero_le _) _).trans hBz) (fun x hx hn => (hrz x (by simp; omega) (by intro h; have h3 : (x = bx ∨ wp.heap.size ≤ x) ∧ x < W1.heap.size := h; exact hn h3.1)).trans (Below.heap_alloc _ _ _ hx))
                  have hFf := hFz.mono (T := fun x => x = bx ∨ wp.heap.size ≤ x) (fun x hx _ => by rcases hx with hx | hx | hx; exact hx.1; exact .inr (by have h4 : W1.heap.size ≤ x ∧ x < W1.heap.size + 1 := hx; omega); simp at hx; exact .inr (by omega))
                  clear hFz hBz hrz hput hF1
                  have hPf := hPs.frame (w' := wf) (S' := fun k => w.heap.size + 1 ≤ k ∧ k < wp.heap.size) (fun k hk hl => ⟨hTf.rest k hl (by simp; omega), hk⟩)
                  have hQf := hQs.frame (w' := wf) (S' := fun k => w.heap.size + 1 ≤ k ∧ k < wp.heap.size) (fun k hk hl => ⟨hTf.rest k hl (by simp; omega), hk⟩)
                  obtain ⟨gf, of, ef, kf, _⟩ := hPf.int hlt
                  obtain ⟨gf', of', ef', kf', _⟩ := hQf.int hltq
                  obtain ⟨rfl, rfl⟩ : gf = g ∧ of = off := by simpa [eq_comm] using ef
                  obtain ⟨rfl, rfl⟩ : gf' = g' ∧ of' = off' := by simpa [eq_comm] using ef'
                  rw [HEN.out] at kf
                  rw [HEM.out] at kf'
                  clear ef ef'
                  go_wp2
                  go_roundw
                  case rel => exact ⟨⟨k + 1, k + 1, n + 1, m + 1, _, _, _, by omega, by omega, by omega, by omega, by go_num, by go_num, by go_num, by go_num, rfl, hFf, HO.out.1.mono (by omega), HI2.out, HJ2.out, HO.out.2⟩, hTf⟩
                  case measure => simp [intOf]; omega
                · have HO := Lib.hid (show SmallP out1 (11 * k + 11) ∧ mergeT o as_ bs = mg o as_ bs (ps.drop (k + 1)) (qs.drop (k + 1)) (k + 1) (k + 1) (n + 1) (m + 1) out1 from
                    ⟨HS1.out.mono (by omega), by have := HX.out; rw [putO_end ho] at this; exact this⟩)
                  obtain ⟨wf, rfl⟩ : ∃ wf : World, wf = W1 := ⟨_, rfl⟩
                  have hFf := hF1
                  have hTf := hT1
                  have hPf := hPs.frame (w' := wf) (S' := fun k => w.heap.size + 1 ≤ k ∧ k < wp.heap.size) (fun k hk hl => ⟨hTf.rest k hl (by simp; omega), hk⟩)
                  have hQf := hQs.frame (w' := wf) (S' := fun k => w.heap.size + 1 ≤ k ∧ k < wp.heap.size) (fun k hk hl => ⟨hTf.rest k hl (by simp; omega), hk⟩)
                  obtain ⟨gf, of, ef, kf, _⟩ := hPf.int hlt
                  obtain ⟨gf', of', ef', kf', _⟩ := hQf.int hltq
                  obtain ⟨rfl, rfl⟩ : gf = g ∧ of = off := by simpa [eq_comm] using ef
                  obtain ⟨rfl, rfl⟩ : gf' = g' ∧ of' = off' := by simpa [eq_comm] using ef'
                  rw [HEN.out] at kf
                  rw [HEM.out] at kf'
                  clear ef ef'
                  go_wp2
                  go_roundw
                  case rel => exact ⟨⟨k + 1, k + 1, n + 1, m + 1, _, _, _, by omega, by omega, by omega, by omega, by go_num, by go_num, by go_num, by go_num, rfl, hFf, HO.out.1.mono (by omega), HI2.out, HJ2.out, HO.out.2⟩, hTf⟩
                  case measure => simp [intOf]; omega
    · have hbW : Below w.heap.size w wo := hbp.trans (hT.below hszp (by intro x hx; simp at hx; omega))
      have HE := Lib.hid (mg_end HD.out hlt)
      have hlt2 : ¬ k < o.length + 1 := by have := HPL.out; omega
      go_wp2
      go_ret
      exact ⟨_, rfl, by rw [HE.out]; exact hFB.fresh (fun x hx hl => by have hx : x = bx ∨ wp.heap.size ≤ x := hx; omega), hbW⟩
end Go.Proofs.Ytlpfoekbccbhlaa
