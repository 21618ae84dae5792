/-
  Walks: what the law of two patches draws.
-/
import Derived.Test.YtfpneepnnoldeaaDrawPO
set_option linter.unusedVariables false
namespace Go.Proofs.Ytfpneepnnoldeaa
open Go.RowKit Go.Vc
open Go.Vc.Rep (rd)
open Go.Vc.Own (own)
/-- a text and two patches drawn -/
def TextPatches (w : World) (e : Ending) (w' : World) : Prop :=
  ∃ (v u1 u2 : Value) (t : List ByteArray) (a b : List Hunk), e = .returned (.tuple #[v, u1, u2]) ∧ rd (fun b => w.heap.size ≤ b) w' [v] t ∧ rd (fun b => w.heap.size ≤ b) w' [u1] a ∧ rd (fun b => w.heap.size ≤ b) w' [u2] b ∧ Below w.heap.size w w'
set_option maxHeartbeats 4000000 in
set_option maxRecDepth 100000 in
theorem drawPatchOver_any {S : Nat → Prop} (v : Value) (bs : List UInt8) (w : World) (hv : rd S w [v] bs) (hl : bs.length ≤ 1048576) :
    Calls Try.prog 19 #[v] w (TextPatches w) := by
  go_enter Try.func19, Try.ntmps19
  go_wp2_with fail
  refine (l30Open_any v bs w hv hl).mono ?_
  rintro e w1 ⟨rfl, hr, hb, hsz'⟩
  have hsz : w.heap.size < w1.heap.size := by omega
  clear hsz'
  go_wp2_with fail
  refine (l30AnyText_any _ _ _ hr (by omega)).mono ?_
  rintro e w2 ⟨tv, t, rfl, ht18, hT, hd, hr⟩
  obtain ⟨at_, ct, htv, _⟩ := hT.shape
  subst htv
  have hs2 := hd.size
  have ht := hT.rd
  go_wp2_with fail
  refine (l30Patch_any _ _ _ t _ hr (by omega) ht (fun b hb => by omega) ht18).mono ?_
  rintro e w3 ⟨u1, a, rfl, ha, hd3, hr3⟩
  obtain ⟨aa, ca, hav, _⟩ := rd_slice_elim ha
  subst hav
  have ht := hd3.rdS ht (fun b hb => by omega)
  have hd4 := hd.tr hd3
  have hs3 := hd3.size
  obtain ⟨x, hx⟩ : ∃ x, (pDo t a).1 = x := ⟨_, rfl⟩
  obtain ⟨p, hp⟩ : ∃ p, (pDo t a).2 = p := ⟨_, rfl⟩
  have I1 := specPatchDo _ t _ a _ ht ha
  rw [hx, hp] at I1
  have hx18 : p = true → x.length ≤ 18 := fun e => by
    have := text_len10 (pDo_text (hp.trans e)).2.2
    rw [hx] at this
    omega
  clear hx hp
  go_wp2_with fail
  refine I1.mono ?_
  rintro e w4 ⟨xv, rfl, hX, hb4⟩
  obtain ⟨ax, cx, hxv, _⟩ := hX.shape
  subst hxv
  have ht := Rep.below ht (Nat.le_refl _) hb4
  have ha := Rep.below ha (Nat.le_refl _) hb4
  have hr4 := hr3.below hr3.lt hb4
  have hd5 := hd4.below hb4
  have hs4 := hb4.size
  clear I1
  cases p with
  | false =>
    clear hx18
    go_wp2_with fail
    refine (l30Patch_any _ _ _ t _ hr4 (by omega) ht (fun b hb => by omega) ht18).mono ?_
    rintro e w5 ⟨u2, b, rfl, hb2, hd6, hr6⟩
    obtain ⟨ab, cb, hbv, _⟩ := rd_slice_elim hb2
    subst hbv
    have ht := hd6.rdS ht (fun b hb => by omega)
    have ha := hd6.rdS ha (fun b hb => by omega)
    have hd7 := hd5.tr hd6
    go_wp2
    refine bodyPost_ret (results_tmp3 rfl _ _ _) rfl ?_
    exact ⟨_, _, _, t, a, b, rfl, Rep.mono (fun b hb => by omega) ht, Rep.mono (fun b hb => by omega) ha, Rep.mono (fun b hb => by omega) hb2, hb.trans (hd7.low (Nat.le_refl _) (by omega))⟩
  | true =>
    have hx9 : x.length ≤ 18 := hx18 (by simp)
    have hXr := hX.rd
    go_wp2_with fail
    refine (l30Patch_any _ _ _ x _ hr4 (by omega) hXr (fun b hb => by omega) hx9).mono ?_
    rintro e w5 ⟨u2, b, rfl, hb2, hd6, hr6⟩
    obtain ⟨ab, cb, hbv, _⟩ := rd_slice_elim hb2
    subst hbv
    have ht := hd6.rdS ht (fun b hb => by omega)
    have ha := hd6.rdS ha (fun b hb => by omega)
    have hd7 := hd5.tr hd6
    go_wp2
    refine bodyPost_ret (results_tmp3 rfl _ _ _) rfl ?_
    exact ⟨_, _, _, t, a, b, rfl, Rep.mono (fun b hb => by omega) ht, Rep.mono (fun b hb => by omega) ha, Rep.mono (fun b hb => by omega) hb2, hb.trans (hd7.low (Nat.le_refl _) (by omega))⟩
end Go.Proofs.Ytfpneepnnoldeaa
