/-
  Walks: marks of Commit. / Walks: marks of Head. / Walks: the laws' own helpers on Repo: marks written into one, and found again.
-/
import Derived.Test.YthhmaclhggmneaaGreatDoorVE
import Derived.Test.YthhmaclhggmneaaGreatDoorVF
set_option linter.unusedVariables false
namespace Go.Proofs.YthhmaclhggmneaaGreatDoor
open Go.RowKit Go.Vc
open Go.Vc.Rep (rd)
open Go.Vc.Own (own)

def cnt1_commit (d : Commit) : Nat := cnt_I d.parents + 1 + cnt_F d.tree
def mark1_commit (k : Int) (d : Commit) : Commit := ⟨marks_I (k) d.parents, markT (k + cnt_I d.parents), marks_F (k + cnt_I d.parents + 1) d.tree⟩
abbrev cnt_C (xs : List Commit) : Nat := bsum cnt1_commit xs
abbrev marks_C (k : Int) (xs : List Commit) : List Commit := marksL mark1_commit cnt1_commit k xs
theorem cnt_C_le (xs : List Commit) : cnt_C xs ≤ 4 * bulk_C xs := bsum_le (fun d => by
  have e1 : cnt1_commit d = cnt_I d.parents + 1 + cnt_F d.tree := rfl
  have e2 : bulk1_commit d = bulk_I d.parents + d.who.size + bulk_F d.tree := rfl
  have := cnt_I_le d.parents
  have := cnt_F_le d.tree
  omega) xs
theorem marks_C_len (k : Int) (xs : List Commit) : (marks_C k xs).length = xs.length := marksL_len _ _ _ _
set_option maxHeartbeats 4000000 in
theorem mark_C {F : List Nat} (v : Value) (xs : List Commit) (k : Int) (w : World) (hv : own F w [v] xs) (hn : F.Nodup) (hk0 : 0 ≤ k) (hk1 : k + cnt_C xs ≤ 16777216) :
    Calls Tryz.prog 24 #[v, .int .i64 k] w fun e w' => e = .returned (.int .i64 (k + cnt_C xs)) ∧ Still F w w' [v] (marks_C k xs) := by
  obtain ⟨a, cap, rfl, hs⟩ := rd_slice_elim (Own.rd_of hv)
  have hle := hs.le
  have hk1 : k + bsum cnt1_commit xs ≤ 16777216 := hk1
  go_enter Tryz.func24, Tryz.ntmps24
  go_wp2
  go_loopw [1, 5] (fun m i wr => (∃ j : Nat, j ≤ xs.length ∧ i = .int .i64 j ∧ m = .int .i64 (k + bsum cnt1_commit (xs.take j))) ∧ ∃ j : Nat, i = .int .i64 j ∧ Still F w wr [.slice a xs.length cap] (over (marks_C k xs) xs j)) (fun _ i _ => xs.length - (intOf i).toNat)
  case atStart => exact ⟨⟨0, by omega, rfl, by simp [bsum]⟩, 0, rfl, Still.start hv hn⟩
  case round =>
    obtain ⟨⟨j, hj, rfl, rfl⟩, j', hj', hS⟩ := hrel
    obtain rfl : j' = j := by simp at hj'; omega
    clear hj'
    by_cases hlt : j' < xs.length
    · have hlm := marks_C_len k xs
      have hsum := bsum_take cnt1_commit xs j' hlt
      have hsl := bsum_take_le cnt1_commit xs (j' + 1)
      have hcd : cnt1_commit xs[j'] = cnt_I xs[j'].parents + 1 + cnt_F xs[j'].tree := rfl
      rw [hcd] at hsum
      have hnext := marksL_next mark1_commit cnt1_commit xs k j' hlt
      obtain ⟨kk, hkk⟩ : ∃ kk : Int, k + bsum cnt1_commit (xs.take j') = kk := ⟨_, rfl⟩
      have hkend : k + bsum cnt1_commit (xs.take (j' + 1)) = kk + cnt_I xs[j'].parents + 1 + cnt_F xs[j'].tree := by omega
      have hkk0 : 0 ≤ kk := by omega
      have hkk1 : kk + cnt_I xs[j'].parents + 1 + cnt_F xs[j'].tree ≤ 16777216 := by omega
      rw [hkk] at hnext ⊢
      have HK := Lib.hid hkend
      have HN := Lib.hid hnext
      have hx0 := over_at' _ _ _ hlm hlt
      have hi0 := (List.getElem?_eq_some_iff.1 hx0).1
      have HI := Lib.hid hi0
      have HX := Lib.hid hx0
      have hlo := over_len _ _ j' hlm (by omega)
      obtain ⟨g, rfl⟩ := hS.addr (by rw [hlo]; omega)
      have hS : Still F w wr [.slice (some ⟨g, 0, none⟩) xs.length cap] ((over (marks_C k xs) xs j').set j' xs[j']) := by
        rw [set_same hx0]; exact hS
      clear hsum hsl hcd hnext hkend hkk hx0 hi0 hlo hlm
      obtain ⟨Fl, lv0, hlv, hol, hnl, hcall⟩ := Still.callf lens_commit_parents hS (List.getElem?_set_self HI.out)
      have hlv' : (wr).cell? ⟨g, j' * 3, none⟩ = some lv0 := hlv
      have hol' : own Fl (wr) [lv0] xs[j'].parents := hol
      have HC := Lib.hid hcall
      clear hlv hol hcall
      go_wp2_with fail
      refine (mark_I _ _ _ _ hol' hnl (by omega) (by omega)).mono ?_
      rintro e w1 ⟨rfl, hS1⟩
      have hS := HC.out _ _ hS1
      rw [List.set_set] at hS
      clear hS1 HC hnl hol' hlv'
      go_wp2_with fail
      refine (markText_any _ _ (by omega)).mono ?_
      rintro e w2 ⟨rfl, hb2⟩
      have hS := hS.below hb2
      obtain ⟨⟨u1, hu1⟩, hf1, hS2⟩ := Still.setf lens_commit_who hS (List.getElem?_set_self HI.out) (markT_own (kk + cnt_I xs[j'].parents))
      rw [List.set_set] at hS2
      have hu1' : (w2).cell? ⟨g, j' * 3 + 1, none⟩ = some u1 := hu1
      have hf1' : (w2).frozen? ⟨g, j' * 3 + 1, none⟩ = false := hf1
      have hS : Still F w ((w2).setCell ⟨g, j' * 3 + 1, none⟩ (.string (markT (kk + cnt_I xs[j'].parents)))) [.slice (some ⟨g, 0, none⟩) xs.length cap] ((over (marks_C k xs) xs j').set j' ⟨marks_I (kk) xs[j'].parents, markT (kk + cnt_I xs[j'].parents), xs[j'].tree⟩) := hS2
      clear hu1 hf1 hS2
      obtain ⟨Fl, lv2, hlv, hol, hnl, hcall⟩ := Still.callf lens_commit_tree hS (List.getElem?_set_self HI.out)
      have hlv' : ((w2).setCell ⟨g, j' * 3 + 1, none⟩ (.string (markT (kk + cnt_I xs[j'].parents)))).cell? ⟨g, j' * 3 + 2, none⟩ = some lv2 := hlv
      have hol' : own Fl ((w2).setCell ⟨g, j' * 3 + 1, none⟩ (.string (markT (kk + cnt_I xs[j'].parents)))) [lv2] xs[j'].tree := hol
      have HC := Lib.hid hcall
      clear hlv hol hcall
      go_wp2_with fail
      refine (mark_F _ _ _ _ hol' hnl (by omega) (by omega)).mono ?_
      rintro e w3 ⟨rfl, hS1⟩
      have hS := HC.out _ _ hS1
      rw [List.set_set] at hS
      clear hS1 HC hnl hol' hlv'
      have HS' := Lib.hid (show Still F w (w3) [.slice (some ⟨g, 0, none⟩) xs.length cap] (over (marks_C k xs) xs (j' + 1)) by rw [← HN.out]; exact hS)
      clear hS
      go_wp2
      go_roundw
      case rel => exact ⟨⟨j' + 1, by omega, by go_num, by rw [HK.out] <;> go_num⟩, j' + 1, by go_num, HS'.out⟩
      case measure => simp [intOf]; omega
    · go_wp2
      go_ret
      exact ⟨ret_int (by rw [List.take_of_length_le (by omega)]), by rw [over_all _ _ _ (marks_C_len k xs) hlt] at hS; exact hS⟩

theorem held_at_commit {S : Nat → Prop} {w : World} {a : Option Addr} {cap : Nat} {ys : List Commit} (hs : IsSlice S w a cap ys) {d : Commit} {j : Nat} {k0 kk : Int} (hj : ys[j]? = some (mark1_commit k0 d)) (hk : k0 = kk) :
    ∃ g off, a = some ⟨g, off, none⟩ ∧ (∃ lv, w.cell? ⟨g, off + j * 3, none⟩ = some lv ∧ rd S w [lv] (marks_I (kk) d.parents)) ∧ w.cell? ⟨g, off + j * 3 + 1, none⟩ = some (.string (markT (kk + cnt_I d.parents))) ∧ (∃ lv, w.cell? ⟨g, off + j * 3 + 2, none⟩ = some lv ∧ rd S w [lv] (marks_F (kk + cnt_I d.parents + 1) d.tree)) := by
  subst hk
  obtain ⟨hj, he⟩ := List.getElem?_eq_some_iff.1 hj
  obtain ⟨g, off, b0, n0, b2, n2, rfl, hc0, hc1, hc2, k0, k1, k2⟩ := hs.commit hj
  rw [he] at hc0 k0 hc1 k1 hc2 k2
  exact ⟨g, off, rfl, ⟨_, hc0, k0.rd⟩, hc1, ⟨_, hc2, k2.rd⟩⟩
end Go.Proofs.YthhmaclhggmneaaGreatDoor
namespace Go.Proofs.YthhmaclhggmneaaGreatDoor
open Go.RowKit Go.Vc
open Go.Vc.Rep (rd)
open Go.Vc.Own (own)

def cnt1_branch (d : Head) : Nat := 1 + 1
def mark1_branch (k : Int) (d : Head) : Head := ⟨markT (k), k + 1⟩
abbrev cnt_H (xs : List Head) : Nat := bsum cnt1_branch xs
abbrev marks_H (k : Int) (xs : List Head) : List Head := marksL mark1_branch cnt1_branch k xs
theorem cnt_H_le (xs : List Head) : cnt_H xs ≤ 4 * bulk_H xs := bsum_le (fun d => by
  have e1 : cnt1_branch d = 1 + 1 := rfl
  have e2 : bulk1_branch d = d.name.size := rfl
  omega) xs
theorem marks_H_len (k : Int) (xs : List Head) : (marks_H k xs).length = xs.length := marksL_len _ _ _ _
set_option maxHeartbeats 4000000 in
theorem mark_H {F : List Nat} (v : Value) (xs : List Head) (k : Int) (w : World) (hv : own F w [v] xs) (hn : F.Nodup) (hk0 : 0 ≤ k) (hk1 : k + cnt_H xs ≤ 16777216) :
    Calls Tryz.prog 25 #[v, .int .i64 k] w fun e w' => e = .returned (.int .i64 (k + cnt_H xs)) ∧ Still F w w' [v] (marks_H k xs) := by
  obtain ⟨a, cap, rfl, hs⟩ := rd_slice_elim (Own.rd_of hv)
  have hle := hs.le
  have hk1 : k + bsum cnt1_branch xs ≤ 16777216 := hk1
  go_enter Tryz.func25, Tryz.ntmps25
  go_wp2
  go_loopw [1, 5] (fun m i wr => (∃ j : Nat, j ≤ xs.length ∧ i = .int .i64 j ∧ m = .int .i64 (k + bsum cnt1_branch (xs.take j))) ∧ ∃ j : Nat, i = .int .i64 j ∧ Still F w wr [.slice a xs.length cap] (over (marks_H k xs) xs j)) (fun _ i _ => xs.length - (intOf i).toNat)
  case atStart => exact ⟨⟨0, by omega, rfl, by simp [bsum]⟩, 0, rfl, Still.start hv hn⟩
  case round =>
    obtain ⟨⟨j, hj, rfl, rfl⟩, j', hj', hS⟩ := hrel
    obtain rfl : j' = j := by simp at hj'; omega
    clear hj'
    by_cases hlt : j' < xs.length
    · have hlm := marks_H_len k xs
      have hsum := bsum_take cnt1_branch xs j' hlt
      have hsl := bsum_take_le cnt1_branch xs (j' + 1)
      have hcd : cnt1_branch xs[j'] = 1 + 1 := rfl
      rw [hcd] at hsum
      have hnext := marksL_next mark1_branch cnt1_branch xs k j' hlt
      obtain ⟨kk, hkk⟩ : ∃ kk : Int, k + bsum cnt1_branch (xs.take j') = kk := ⟨_, rfl⟩
      have hkend : k + bsum cnt1_branch (xs.take (j' + 1)) = kk + 1 + 1 := by omega
      have hkk0 : 0 ≤ kk := by omega
      have hkk1 : kk + 1 + 1 ≤ 16777216 := by omega
      rw [hkk] at hnext ⊢
      have HK := Lib.hid hkend
      have HN := Lib.hid hnext
      have hx0 := over_at' _ _ _ hlm hlt
      have hi0 := (List.getElem?_eq_some_iff.1 hx0).1
      have HI := Lib.hid hi0
      have HX := Lib.hid hx0
      have hlo := over_len _ _ j' hlm (by omega)
      obtain ⟨g, rfl⟩ := hS.addr (by rw [hlo]; omega)
      have hS : Still F w wr [.slice (some ⟨g, 0, none⟩) xs.length cap] ((over (marks_H k xs) xs j').set j' xs[j']) := by
        rw [set_same hx0]; exact hS
      clear hsum hsl hcd hnext hkend hkk hx0 hi0 hlo hlm
      go_wp2_with fail
      refine (markText_any _ _ (by omega)).mono ?_
      rintro e w1 ⟨rfl, hb1⟩
      have hS := hS.below hb1
      obtain ⟨⟨u0, hu0⟩, hf0, hS2⟩ := Still.setf lens_branch_name hS (List.getElem?_set_self HI.out) (markT_own (kk))
      rw [List.set_set] at hS2
      have hu0' : (w1).cell? ⟨g, j' * 2, none⟩ = some u0 := hu0
      have hf0' : (w1).frozen? ⟨g, j' * 2, none⟩ = false := hf0
      have hS : Still F w ((w1).setCell ⟨g, j' * 2, none⟩ (.string (markT (kk)))) [.slice (some ⟨g, 0, none⟩) xs.length cap] ((over (marks_H k xs) xs j').set j' ⟨markT (kk), xs[j'].at_⟩) := hS2
      clear hu0 hf0 hS2
      obtain ⟨⟨u1, hu1⟩, hf1, hS2⟩ := Still.setf lens_branch_at_ hS (List.getElem?_set_self HI.out) (own_int (k := kk + 1) (by omega) (by omega))
      rw [List.set_set] at hS2
      have hu1' : ((w1).setCell ⟨g, j' * 2, none⟩ (.string (markT (kk)))).cell? ⟨g, j' * 2 + 1, none⟩ = some u1 := hu1
      have hf1' : ((w1).setCell ⟨g, j' * 2, none⟩ (.string (markT (kk)))).frozen? ⟨g, j' * 2 + 1, none⟩ = false := hf1
      have hS : Still F w (((w1).setCell ⟨g, j' * 2, none⟩ (.string (markT (kk)))).setCell ⟨g, j' * 2 + 1, none⟩ (.int .i64 (kk + 1))) [.slice (some ⟨g, 0, none⟩) xs.length cap] ((over (marks_H k xs) xs j').set j' ⟨markT (kk), (kk + 1)⟩) := hS2
      clear hu1 hf1 hS2
      have HS' := Lib.hid (show Still F w (((w1).setCell ⟨g, j' * 2, none⟩ (.string (markT (kk)))).setCell ⟨g, j' * 2 + 1, none⟩ (.int .i64 (kk + 1))) [.slice (some ⟨g, 0, none⟩) xs.length cap] (over (marks_H k xs) xs (j' + 1)) by rw [← HN.out]; exact hS)
      clear hS
      go_wp2
      go_roundw
      case rel => exact ⟨⟨j' + 1, by omega, by go_num, by rw [HK.out] <;> go_num⟩, j' + 1, by go_num, HS'.out⟩
      case measure => simp [intOf]; omega
    · go_wp2
      go_ret
      exact ⟨ret_int (by rw [List.take_of_length_le (by omega)]), by rw [over_all _ _ _ (marks_H_len k xs) hlt] at hS; exact hS⟩

theorem held_at_branch {S : Nat → Prop} {w : World} {a : Option Addr} {cap : Nat} {ys : List Head} (hs : IsSlice S w a cap ys) {d : Head} {j : Nat} {k0 kk : Int} (hj : ys[j]? = some (mark1_branch k0 d)) (hk : k0 = kk) :
    ∃ g off, a = some ⟨g, off, none⟩ ∧ w.cell? ⟨g, off + j * 2, none⟩ = some (.string (markT (kk))) ∧ w.cell? ⟨g, off + j * 2 + 1, none⟩ = some (.int .i64 (kk + 1)) := by
  subst hk
  obtain ⟨hj, he⟩ := List.getElem?_eq_some_iff.1 hj
  obtain ⟨g, off, rfl, hc0, hc1, k0, k1⟩ := hs.branch hj
  rw [he] at hc0 k0 hc1 k1
  exact ⟨g, off, rfl, hc0, hc1⟩
end Go.Proofs.YthhmaclhggmneaaGreatDoor
namespace Go.Proofs.YthhmaclhggmneaaGreatDoor
open Go.RowKit Go.Vc
open Go.Vc.Rep (rd)
open Go.Vc.Own (own)
theorem keept {F : List Nat} {w w' : World} {p : Addr} {v : Value} (h : w.cell? p = some v) (ht : TouchF F w w') (hn : p.block ∉ F) : w'.cell? p = some v := by
  have hl := World.block_lt_of_cell? w p h
  have e := ht.rest p.block hl hn
  unfold World.cell? at h ⊢
  rw [e]
  exact h
theorem own_touch {α : Type} [Own α] {F G : List Nat} {w w' : World} {vs : List Value} {x : α} (h : own F w vs x) (ht : TouchF G w w') (hd : ∀ b, b ∈ F → b ∉ G) : own F w' vs x :=
  Own.oframe (fun b hb => ht.rest b (Own.lt h b hb) (hd b hb)) h
theorem TouchF.two {F G : List Nat} {a b c : World} (h : TouchF F a b) (k : TouchF G b c) : TouchF (F ++ G) a c :=
  (TouchF.mk h.os h.tape h.output h.size (fun x hx hxF => h.rest x hx (fun hm => hxF (List.mem_append_left _ hm))) : TouchF (F ++ G) a b).trans k fun x hx => .inl (List.mem_append_right _ hx)
/-- what lies elsewhere is left -/
theorem TouchF.fresh {β : Type} [Own β] {F : List Nat} {w w' : World} {zs : List Value} {z : β} {B m B' m' : Nat} (h : TouchF F w w') (hF : ∀ b, b ∈ F → B ≤ b ∧ b < m) (hz : Fresh B' m' w zs z) (hd : m' ≤ B ∨ m ≤ B') : Fresh B' m' w' zs z :=
  hz.keep fun b h1 h2 h3 => h.rest b h3 fun hm => by have := hF b hm; omega
theorem TouchF.args {β : Type} [Rep β] {F : List Nat} {w w' : World} {zs : List Value} {z : β} {B m C : Nat} (h : TouchF F w w') (hF : ∀ b, b ∈ F → B ≤ b ∧ b < m) (hz : rd (fun b => b < C) w zs z) (hd : C ≤ B) : rd (fun b => b < C) w' zs z :=
  Rep.frame (fun b h1 h2 => ⟨h.rest b h2 fun hm => by have := hF b hm; omega, h1⟩) hz
theorem TouchF.cellAt {F : List Nat} {w w' : World} {g off : Nat} {v : Value} {B m : Nat} (h : TouchF F w w') (hF : ∀ b, b ∈ F → B ≤ b ∧ b < m) (hc : w.cell? ⟨g, off, none⟩ = some v) (hd : g < B ∨ m ≤ g) : w'.cell? ⟨g, off, none⟩ = some v :=
  keept hc h fun hm => by have : g ∈ F := hm; have := hF g this; omega
set_option maxHeartbeats 2000000 in
theorem mark1_repo {F G : List Nat} (d : Repo) (v0 v1 : Value) (k : Int) (w : World) (h0 : own F w [v0] d.commits) (n0 : F.Nodup) (h1 : own G w [v1] d.heads) (n1 : G.Nodup) (hd : ∀ b, b ∈ F → b ∉ G) (hk0 : 0 ≤ k) (hk1 : k + cnt_C d.commits + cnt_H d.heads ≤ 16777216) :
    Calls Tryz.prog 10 #[.agg #[v0, v1], .int .i64 k] w fun e w' => e = .returned (.int .i64 (k + cnt_C d.commits + cnt_H d.heads)) ∧ rd (fun b => b < w'.heap.size) w' [v0] (marks_C k d.commits) ∧ rd (fun b => b < w'.heap.size) w' [v1] (marks_H (k + cnt_C d.commits) d.heads) ∧ TouchF (F ++ G) w w' := by
  obtain ⟨a, cap, rfl, hs⟩ := rd_slice_elim (Rep.lt (Own.rd_of h0))
  obtain ⟨a1, c1, rfl, hs1⟩ := rd_slice_elim (Rep.lt (Own.rd_of h1))
  have hlF : ∀ b, b ∈ F → b < w.heap.size := fun b hb => Own.lt h0 b hb
  have hlG : ∀ b, b ∈ G → b < w.heap.size := fun b hb => Own.lt h1 b hb
  have hB0 : Below w.heap.size w (w.alloc (.cells #[.slice a d.commits.length cap, .slice a1 d.heads.length c1] 32)) := ((Below.refl _ _).alloc (by simp <;> omega) _)
  have q0 : (w.alloc (.cells #[.slice a d.commits.length cap, .slice a1 d.heads.length c1] 32)).cell? ⟨w.heap.size, 0, none⟩ = some (.slice a d.commits.length cap) := by rw [cell_of_row _ _ 0 _ _ (0, 0) (heap_alloc_new _ _)]; rfl
  have q1 : (w.alloc (.cells #[.slice a d.commits.length cap, .slice a1 d.heads.length c1] 32)).cell? ⟨w.heap.size, 1, none⟩ = some (.slice a1 d.heads.length c1) := by rw [cell_of_row _ _ 1 _ _ (0, 0) (heap_alloc_new _ _)]; rfl
  have h0 := Own.oframe (fun b hb => hB0.block b (hlF b hb)) h0
  have h1 := Own.oframe (fun b hb => hB0.block b (hlG b hb)) h1
  go_enter Tryz.func10, Tryz.ntmps10
  go_wp2_with fail
  refine (mark_C _ d.commits k _ h0 n0 (by omega) (by omega)).mono ?_
  rintro e w1 ⟨rfl, hS⟩
  have q1 := keept q1 hS.touch (fun hm => absurd (hlF _ hm) (Nat.lt_irrefl _))
  have h1 := own_touch h1 hS.touch (fun b hb hm => hd b hm hb)
  go_wp2_with fail
  refine (mark_H _ d.heads (k + cnt_C d.commits) _ h1 n1 (by omega) (by omega)).mono ?_
  rintro e w2 ⟨rfl, hS1⟩
  obtain ⟨F', ho, hn', hof, htt⟩ := hS
  have hF' : own F' w2 [.slice a d.commits.length cap] (marks_C k d.commits) := own_touch ho hS1.touch fun b hb hm => by
    rcases hof b hb with h | h
    · exact hd b h hm
    · have := hlG b hm; simp at h; omega
  have ht2 := TouchF.two htt hS1.touch
  have hr0 := Rep.lt (Own.rd_of hF')
  have hr1 := hS1.rdlt
  go_wp2
  go_ret
  refine ⟨rfl, hr0, hr1, ?_⟩
  exact (TouchF.of_below hB0).trans ht2 fun x hx => .inl hx
end Go.Proofs.YthhmaclhggmneaaGreatDoor
