/-
  The walk of a law: FnChangesMove.
-/
import Derived.Test.YtegknjcifmenpaaDoorVDT
import Derived.Test.YtegknjcifmenpaaDoorWMoveI
import Derived.Test.YtegknjcifmenpaaDoorVTD
import Derived.Test.YtegknjcifmenpaaDoorWTreeG
import Derived.Test.YtegknjcifmenpaaDoorVSM
import Derived.Test.YtegknjcifmenpaaDoorPlTM
import Derived.Test.YtegknjcifmenpaaDoorPlChM
import Derived.Test.YtegknjcifmenpaaDoorWChO
set_option linter.unusedVariables false
namespace Go.Vc
theorem movG_in_mem {path dst : ByteArray} {t : List File} {g : File} (h : g ∈ movedT t path dst) : g ∈ dropT t path ∨ ∃ f, f ∈ t ∧ isAtB path f.path = true ∧ g = mvF path dst f := by
  have key : ∀ (r b : List File), g ∈ movG path dst b r → g ∈ b ∨ ∃ f, f ∈ r ∧ isAtB path f.path = true ∧ g = mvF path dst f := by
    intro r
    induction r with
    | nil => intro b hg; exact .inl hg
    | cons f r ih =>
      intro b hg
      rw [movG] at hg
      split at hg
      · rename_i hat
        rcases ih _ hg with h | ⟨f', h1, h2, h3⟩
        · rcases setG_mem h with h | h
          · exact .inr ⟨f, List.mem_cons_self .., hat, h⟩
          · exact .inl h
        · exact .inr ⟨f', List.mem_cons_of_mem _ h1, h2, h3⟩
      · rcases ih _ hg with h | ⟨f', h1, h2, h3⟩
        · exact .inl h
        · exact .inr ⟨f', List.mem_cons_of_mem _ h1, h2, h3⟩
  exact key t (dropT t path) h
end Go.Vc
namespace Go.Proofs.YtegknjcifmenpaaDoor
open Go.RowKit Go.Vc
open Go.Vc.Rep (rd)
open Go.Vc.Own (own)

set_option maxHeartbeats 8000000 in
set_option maxRecDepth 100000 in
theorem lawFnChangesMove (v0 : Value) (bs : List UInt8) (w : World) (h0 : rd (fun b => b < w.heap.size) w [v0] bs) (hM : ML w) :
    Calls Tryd.prog 3 #[v0] w fun e w' => e = .returned (.bool true) ∧ Below w.heap.size w w' := by
  obtain ⟨a0, c0, rfl, hs0⟩ := rd_slice_elim h0
  have hle := hs0.le
  by_cases hbig : 1048576 < bs.length
  · go_enter Tryd.func3, Tryd.ntmps3
    go_wp2
    go_ret
    exact ⟨rfl, Below.refl _ _⟩
  go_enter Tryd.func3, Tryd.ntmps3
  go_wp2_with fail
  refine (drawTreeMove_any _ bs w h0 (by omega)).mono ?_
  rintro e w0 ⟨v, t, path, dst, rfl, hSm, hz, hzd, ht, HB⟩
  have ht := Rep.lt ht
  have hM := hM.keep HB
  have hS := hSm.short
  have hp1 : path.size ≤ 1048576 := by omega
  have hd1 : dst.size ≤ 1048576 := by omega
  have hZ : ∀ f, f ∈ t → f.path.size ≤ 1048576 := fun f hf => by have := (hSm.2 f hf).1; omega
  have h100 : ∀ f, f ∈ t → f.path.size ≤ 100 := fun f hf => (hSm.2 f hf).1
  obtain ⟨x, hx⟩ : ∃ x, treeMove t path dst = x := ⟨_, rfl⟩
  obtain ⟨b, hb⟩ : ∃ b, moveB t path dst = b := ⟨_, rfl⟩
  obtain ⟨M, hMM⟩ : ∃ M, treeGet t path = M := ⟨_, rfl⟩
  have HX := Lib.hid hx
  have HBB := Lib.hid hb
  have HMM := Lib.hid hMM
  have IG := fun (q : World) (v' : Value) (hv : rd (fun b => b < q.heap.size) q [v'] t) (hM : ML q) => implTreeGet v' t path q hv hS hM hMM
  obtain ⟨m, hm⟩ : ∃ m, M.isSome = m := ⟨_, rfl⟩
  rw [hm] at IG
  have HMS := Lib.hid hm
  clear h0 hs0 hle hbig hSm hx hb hMM hm
  obtain ⟨htA, htC, htV, _⟩ := rd_slice_elim ht
  subst htV
  go_wp2_with fail
  refine (implTreeMove _ t path dst _ ht hp1 hd1 hZ hM HBB.out HX.out).mono ?_
  rintro e w1 ⟨p, rfl, hP, hb1⟩
  have ht := Rep.lt (Rep.keep ht hb1)
  have hM := ML.keep hM hb1
  have HB := HB.trans (hb1.mono HB.size)
  have hP := Rep.lt hP.rd
  obtain ⟨hPA, hPC, hPV, _⟩ := rd_slice_elim hP
  subst hPV
  go_wp2_with fail
  refine (specTreeMove _ t path dst _ ht hp1 hd1 hZ HBB.out HX.out).mono ?_
  rintro e w2 ⟨q, rfl, hQ, hb2⟩
  have ht := Rep.lt (Rep.keep ht hb2)
  have hM := ML.keep hM hb2
  have HB := HB.trans (hb2.mono HB.size)
  have hP := Rep.lt (Rep.keep hP hb2)
  have hQ := Rep.lt hQ
  obtain ⟨hQA, hQC, hQV, _⟩ := rd_slice_elim hQ
  subst hQV
  go_wp2_with fail
  refine (IG _ _ ht hM).mono ?_
  rintro e w3 ⟨r, rfl, hR, hb3⟩
  have ht := Rep.lt (Rep.keep ht hb3)
  have hM := ML.keep hM hb3
  have HB := HB.trans (hb3.mono HB.size)
  have hP := Rep.lt (Rep.keep hP hb3)
  have hQ := Rep.lt (Rep.keep hQ hb3)
  obtain ⟨rA, rC, hrV, _⟩ := hR.shape
  subst hrV
  clear hR IG
  have hbb : (b != b) = false := by simp
  have hbe : (b == b) = true := by simp
  cases b with
  | false =>
    go_wp2_with fail
    refine (smTree_is _ _ x x _ hP hQ (decide_eq_true rfl)).mono ?_
    rintro e w4 ⟨rfl, hb4⟩
    have ht := Rep.lt (Rep.keep ht hb4)
    have hM := ML.keep hM hb4
    have HB := HB.trans (hb4.mono HB.size)
    have hP := Rep.lt (Rep.keep hP hb4)
    have hQ := Rep.lt (Rep.keep hQ hb4)
    go_wp2_with fail
    refine (smTree_is _ _ x x _ hP hQ (decide_eq_true rfl)).mono ?_
    rintro e w5 ⟨rfl, hb5⟩
    have ht := Rep.lt (Rep.keep ht hb5)
    have hM := ML.keep hM hb5
    have HB := HB.trans (hb5.mono HB.size)
    have hP := Rep.lt (Rep.keep hP hb5)
    have hQ := Rep.lt (Rep.keep hQ hb5)
    go_wp2
    go_ret
    exact ⟨rfl, HB⟩
  | true =>
    cases m with
    | false =>
      go_wp2_with fail
      refine (smTree_is _ _ x x _ hP hQ (decide_eq_true rfl)).mono ?_
      rintro e w6 ⟨rfl, hb6⟩
      have ht := Rep.lt (Rep.keep ht hb6)
      have hM := ML.keep hM hb6
      have HB := HB.trans (hb6.mono HB.size)
      have hP := Rep.lt (Rep.keep hP hb6)
      have hQ := Rep.lt (Rep.keep hQ hb6)
      go_wp2_with fail
      refine (smTree_is _ _ x x _ hP hQ (decide_eq_true rfl)).mono ?_
      rintro e w7 ⟨rfl, hb7⟩
      have ht := Rep.lt (Rep.keep ht hb7)
      have hM := ML.keep hM hb7
      have HB := HB.trans (hb7.mono HB.size)
      have hP := Rep.lt (Rep.keep hP hb7)
      have hQ := Rep.lt (Rep.keep hQ hb7)
      go_wp2
      go_ret
      exact ⟨rfl, HB⟩
    | true =>
      by_cases hpd : path = dst
      · have hpd9 : decide (path = dst) = true := decide_eq_true hpd
        clear hpd
        go_wp2_with fail
        refine (smTree_is _ _ x x _ hP hQ (decide_eq_true rfl)).mono ?_
        rintro e w8 ⟨rfl, hb8⟩
        have ht := Rep.lt (Rep.keep ht hb8)
        have hM := ML.keep hM hb8
        have HB := HB.trans (hb8.mono HB.size)
        have hP := Rep.lt (Rep.keep hP hb8)
        have hQ := Rep.lt (Rep.keep hQ hb8)
        go_wp2_with fail
        refine (smTree_is _ _ x x _ hP hQ (decide_eq_true rfl)).mono ?_
        rintro e w9 ⟨rfl, hb9⟩
        have ht := Rep.lt (Rep.keep ht hb9)
        have hM := ML.keep hM hb9
        have HB := HB.trans (hb9.mono HB.size)
        have hP := Rep.lt (Rep.keep hP hb9)
        have hQ := Rep.lt (Rep.keep hQ hb9)
        go_wp2
        go_ret
        exact ⟨rfl, HB⟩
      · have hpd9 : decide (path = dst) = false := decide_eq_false hpd
        have htT : treeB t = true := by
          have := HBB.out
          unfold moveB at this
          rw [Bool.and_eq_true] at this
          exact this.1
        obtain ⟨y, hy⟩ : ∃ y, getT t path = some y := by
          have h1 := HMM.out
          rw [treeGet_ok htT] at h1
          have h2 := HMS.out
          rw [← h1] at h2
          cases hg : getT t path with
          | none => rw [hg] at h2; cases h2
          | some y => exact ⟨y, rfl⟩
        have hlist : changesOf t x = [⟨4, path, dst, [], []⟩] := by rw [← HX.out]; exact moved_change htT HBB.out hy hpd
        have hSx : ∀ f, f ∈ x → ShortS f.path := fun f hf => by
          have hb2 := HBB.out
          have hm : x = movedT t path dst := by rw [← HX.out, move_ok htT, if_pos hb2]
          rw [hm] at hf
          rcases movG_in_mem hf with h | ⟨g, hg, hat, rfl⟩
          · exact hS f (List.mem_filter.1 h).1
          · have h1 := mvP_size (dst := dst) (isAt_size hat)
            have h2 := h100 g hg
            refine short_of ?_
            show (mvP path dst g.path).size ≤ 1048576
            omega
        have IC := fun (q : World) (v1 v2 : Value) (h1 : rd (fun b => b < q.heap.size) q [v1] t) (h2 : rd (fun b => b < q.heap.size) q [v2] x) (hM : ML q) => implChangesOf v1 v2 t x q h1 h2 hS hSx hM
        rw [hlist] at IC
        clear hpd hlist hy htT hSx
        go_wp2_with fail
        refine (smTree_is _ _ x x _ hP hQ (decide_eq_true rfl)).mono ?_
        rintro e w10 ⟨rfl, hb10⟩
        have ht := Rep.lt (Rep.keep ht hb10)
        have hM := ML.keep hM hb10
        have HB := HB.trans (hb10.mono HB.size)
        have hP := Rep.lt (Rep.keep hP hb10)
        have hQ := Rep.lt (Rep.keep hQ hb10)
        go_wp2_with fail
        refine (IC _ _ _ ht hP hM).mono ?_
        rintro e w11 ⟨c, rfl, hC, hb11⟩
        have ht := Rep.lt (Rep.keep ht hb11)
        have hM := ML.keep hM hb11
        have HB := HB.trans (hb11.mono HB.size)
        have hP := Rep.lt (Rep.keep hP hb11)
        have hQ := Rep.lt (Rep.keep hQ hb11)
        have hC := hC.rd
        obtain ⟨cA, cC, hcV, hCs⟩ := rd_slice_elim hC
        subst hcV
        obtain ⟨g, off, a3, c3, a4, c4, hgo, k0, k1, k2, k3, k4, _⟩ := hCs.change (i := 0) (by simp)
        subst hgo
        simp only [List.getElem_cons_zero, Nat.zero_mul, Nat.add_zero] at k0 k1 k2 k3 k4
        clear hC hCs IC
        go_wp2
        go_ret
        exact ⟨rfl, HB⟩
end Go.Proofs.YtegknjcifmenpaaDoor
