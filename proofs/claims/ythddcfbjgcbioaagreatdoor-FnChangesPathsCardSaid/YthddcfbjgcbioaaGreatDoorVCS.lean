/-
  Walks: where a file goes to, as the reference has it; changes compared. / Walks: what changed between two trees, as the reference has it. / Walks: changes, compared.
-/
import Derived.Test.YthddcfbjgcbioaaGreatDoorVCH
import Derived.Test.YthddcfbjgcbioaaGreatDoorVGR
import Derived.Test.YthddcfbjgcbioaaGreatDoorVSM
import Derived.Test.YthddcfbjgcbioaaGreatDoorVDJ
import Derived.Test.YthddcfbjgcbioaaGreatDoorWM4
import Derived.Test.YthddcfbjgcbioaaGreatDoorVCT
import Derived.Test.YthddcfbjgcbioaaGreatDoorVFS
import Derived.Deep.RegionHeld3
import Derived.Test.YthddcfbjgcbioaaGreatDoorVP1
set_option linter.unusedVariables false
namespace Go.Vc
/-- the path of a file, if there is one -/
def pathO (M : Option File) : ByteArray := match M with | some g => g.path | none => ⟨#[]⟩
theorem goes_next {out : List Change} {k : Nat} {p : ByteArray} {F : Bool} (hk : k < out.length) {c : Bool} (H : F = (c && !goesTo (out.drop k) p)) : F = ((c && !decide (out[k].dst = p)) && !goesTo (out.drop (k + 1)) p) := by
  rw [H, drop_cons out k hk]
  unfold goesTo
  rw [List.any_cons]
  cases c <;> cases decide (out[k].dst = p) <;> rfl
theorem goes_end {out : List Change} {k : Nat} {p : ByteArray} {F c : Bool} (hk : ¬ k < out.length) (H : F = (c && !goesTo (out.drop k) p)) : F = c := by
  rw [H, drop_nil out k hk]
  unfold goesTo
  simp
end Go.Vc
namespace Go.Proofs.YthddcfbjgcbioaaGreatDoor
open Go.RowKit Go.Vc
open Go.Vc.Rep (rd)
open Go.Vc.Own (own)
set_option maxHeartbeats 8000000 in
set_option maxRecDepth 100000 in
theorem l5Target_any {S T U V : Nat → Prop} (v u x z : Value) (a b : List File) (tx : List ByteArray) (out : List Change) (w : World) (hv : rd S w [v] a) (hu : rd T w [u] b) (hx : rd U w [x] tx) (hz : rd V w [z] out) {M : Option File} (hM : chTo a b out tx = M) :
    Calls Tryz.prog 77 #[v, u, x, z] w fun e w' => e = .returned (.string (pathO M)) ∧ Below w.heap.size w w' := by
  obtain ⟨a1, c1, rfl, h1⟩ := rd_slice_elim (Rep.lt hv)
  obtain ⟨a2, c2, rfl, h2⟩ := rd_slice_elim (Rep.lt hu)
  obtain ⟨a3, c3, rfl, h3⟩ := rd_slice_elim (Rep.lt hx)
  obtain ⟨a4, c4, rfl, h4⟩ := rd_slice_elim (Rep.lt hz)
  have n2 := h2.le
  have n4 := h4.le
  have HM0 : Hid (M = (b.drop 0).find? (mayB a out tx)) := hM.symm
  clear hv hu hx hz hM
  go_enter Tryz.func77, Tryz.ntmps77
  go_wp2
  go_loopw [9] (fun i wr => (∃ k : Nat, k ≤ b.length ∧ i = .int .i64 k ∧ Hid (M = (b.drop k).find? (mayB a out tx))) ∧ Below w.heap.size w wr) (fun i _ => b.length - (intOf i).toNat)
  case atStart => exact ⟨⟨0, by omega, rfl, HM0.out⟩, Below.refl _ _⟩
  case round =>
    obtain ⟨⟨k, hk, rfl, HA⟩, hb⟩ := hrel
    obtain ⟨wx, hwx⟩ : ∃ wx : World, wx = wr := ⟨_, rfl⟩
    subst hwx
    have hsx := hb.size
    by_cases hlt : k < b.length
    · obtain ⟨g, off, b1, d1, hag, q0, q1, hz1, hft⟩ := (h2.keep hb).file hlt
      subst hag
      have HT1 := Lib.hid (fun h => to_hit HA.out hlt h)
      have HT2 := Lib.hid (fun h => to_next HA.out hlt h)
      obtain ⟨f, hf⟩ : ∃ f, f = b[k] := ⟨_, rfl⟩
      rw [← hf] at q0 q1 hz1 hft HT1 HT2
      obtain ⟨N, hN⟩ : ∃ N, getT a f.path = N := ⟨_, rfl⟩
      obtain ⟨G, hG⟩ : ∃ G, goesTo out f.path = G := ⟨_, rfl⟩
      have HMAY : Hid (mayB a out tx f = (N.isNone && decide (f.text = tx) && !G)) := by show mayB a out tx f = _; rw [← hN, ← hG]; rfl
      have HG0 : Hid ((!G) = (true && !goesTo (out.drop 0) f.path)) := by show (!G) = _; rw [← hG]; simp
      clear hf hG HA
      go_wp2_with fail
      refine (l4Get_in _ a f.path _ (h1.keep hb).rd hN).mono ?_
      rintro e w1 ⟨vt, rfl, hT, rfl⟩
      obtain ⟨at_, ct, hvt, _⟩ := rd_slice_elim hT
      subst hvt
      clear hN
      go_wp2
      go_loopw [12, 13] (fun fr i wr => (∃ (j : Nat) (c : Bool), j ≤ out.length ∧ i = .int .i64 j ∧ fr = .bool c ∧ Hid ((!G) = (c && !goesTo (out.drop j) f.path))) ∧ Below wx.heap.size wx wr) (fun _ i _ => out.length - (intOf i).toNat)
      case atStart => exact ⟨⟨0, true, by omega, rfl, rfl, HG0.out⟩, Below.refl _ _⟩
      case round =>
        clear HG0
        obtain ⟨⟨j, c, hj, rfl, rfl, HB⟩, hb2⟩ := hrel
        obtain ⟨wy, hwy⟩ : ∃ wy : World, wy = wr := ⟨_, rfl⟩
        subst hwy
        have hsy := hb2.size
        have hBy := hb.trans (hb2.mono hsx)
        have q0y := keepc q0 hb2
        by_cases hlj : j < out.length
        · obtain ⟨g1, off1, e3, f3, e4, f4, hag1, r0, r1, r2, r3, r4, hi0, hy1, hy2, hy3, hy4⟩ := (h4.keep hBy).change hlj
          subst hag1
          have HN := Lib.hid (goes_next hlj HB.out)
          obtain ⟨p, hp⟩ : ∃ p, p = out[j].dst := ⟨_, rfl⟩
          rw [← hp] at r2 HN hy2
          have z1 := BW.cell r2
          have z2 := BW.cell q0y
          clear hp r0 r1 r3 r4 hy3 hy4 HB
          cases c with
          | false =>
            go_wp2
            refine wp_region_bw (by kernel_rfl) (by kernel_rfl) ?_
            repeat (go_big_quiet_step (fail))
            refine wpQuiet_nil ?_
            rintro w1 ⟨⟨_, hbw⟩, rfl⟩
            go_wp2
            go_roundw
            case rel => exact ⟨⟨j + 1, false, by omega, by go_num, rfl, HN.out⟩, hb2.trans (hbw.mono hsy)⟩
            case measure => simp [intOf] <;> omega
          | true =>
            by_cases he : p = f.path
            · have hd : decide (p = f.path) = true := decide_eq_true he
              have HN2 := Lib.hid (show (!G) = (false && !goesTo (out.drop (j + 1)) f.path) by have := HN.out; rw [hd] at this; exact this)
              clear he HN
              go_wp2
              refine wp_region_bw (by kernel_rfl) (by kernel_rfl) ?_
              repeat (go_big_quiet_step (fail))
              refine wpQuiet_nil ?_
              rintro w1 ⟨⟨_, hbw⟩, rfl⟩
              go_wp2
              go_roundw
              case rel => exact ⟨⟨j + 1, false, by omega, by go_num, rfl, HN2.out⟩, hb2.trans (hbw.mono hsy)⟩
              case measure => simp [intOf] <;> omega
            · have hd : decide (p = f.path) = false := decide_eq_false he
              have HN2 := Lib.hid (show (!G) = (true && !goesTo (out.drop (j + 1)) f.path) by have := HN.out; rw [hd] at this; exact this)
              clear he HN
              go_wp2
              refine wp_region_bw (by kernel_rfl) (by kernel_rfl) ?_
              repeat (go_big_quiet_step (fail))
              refine wpQuiet_nil ?_
              rintro w1 ⟨⟨_, hbw⟩, rfl⟩
              go_wp2
              go_roundw
              case rel => exact ⟨⟨j + 1, true, by omega, by go_num, rfl, HN2.out⟩, hb2.trans (hbw.mono hsy)⟩
              case measure => simp [intOf] <;> omega
        · have HC := Lib.hid (goes_end hlj HB.out)
          have q1y := keepc q1 hb2
          have hfy := hft.keep (hb2.mono hsx)
          have h3y := h3.keep hBy
          clear HB
          cases N with
          | some y =>
            have HZ := Lib.hid (HT2.out (by rw [HMAY.out]; rfl))
            have e1 : (some y : Option (List ByteArray)).isSome = true := rfl
            rw [e1]
            go_wp2
            go_roundw
            case rel => exact ⟨⟨k + 1, by omega, by go_num, HZ.out⟩, hBy⟩
            case measure => simp [intOf] <;> omega
          | none =>
            have e1 : (none : Option (List ByteArray)).isSome = false := rfl
            rw [e1]
            clear e1
            cases c with
            | false =>
              have HZ := Lib.hid (HT2.out (by rw [HMAY.out, HC.out]; simp))
              go_wp2
              go_roundw
              case rel => exact ⟨⟨k + 1, by omega, by go_num, HZ.out⟩, hBy⟩
              case measure => simp [intOf] <;> omega
            | true =>
              by_cases he : f.text = tx
              · have hd : decide (f.text = tx) = true := decide_eq_true he
                have HZ := Lib.hid (HT1.out (by rw [HMAY.out, HC.out, hd]; rfl))
                clear he
                go_wp2_with fail
                refine (l1Same_is _ _ f.text tx _ hfy.rd h3y.rd hd).mono ?_
                rintro e w5 ⟨rfl, n5, hn5⟩
                have hb5 : Below wy.heap.size wy w5 := by rw [hn5]; exact below_drewN (Below.refl _ _) n5
                have q05 := keepc q0y hb5
                clear hn5
                go_wp2
                go_ret
                exact ⟨by rw [HZ.out]; rfl, hBy.trans (hb5.mono hBy.size)⟩
              · have hd : decide (f.text = tx) = false := decide_eq_false he
                have HZ := Lib.hid (HT2.out (by rw [HMAY.out, hd]; rfl))
                clear he
                go_wp2_with fail
                refine (l1Same_is _ _ f.text tx _ hfy.rd h3y.rd hd).mono ?_
                rintro e w5 ⟨rfl, n5, hn5⟩
                have hb5 : Below wy.heap.size wy w5 := by rw [hn5]; exact below_drewN (Below.refl _ _) n5
                clear hn5
                go_wp2
                go_roundw
                case rel => exact ⟨⟨k + 1, by omega, by go_num, HZ.out⟩, hBy.trans (hb5.mono hBy.size)⟩
                case measure => simp [intOf] <;> omega
    · have HZ := Lib.hid (to_end HA.out hlt)
      go_wp2
      go_ret
      exact ⟨by rw [HZ.out]; rfl, hb⟩
end Go.Proofs.YthddcfbjgcbioaaGreatDoor
namespace Go.Vc
theorem anyC_next {o : List Change} {k : Nat} {p : ByteArray} {G : Bool} (hk : k < o.length) {c : Bool} (H : G = (c || goesTo (o.drop k) p)) : G = ((c || decide (o[k].dst = p)) || goesTo (o.drop (k + 1)) p) := by
  rw [H, drop_cons o k hk]
  unfold goesTo
  rw [List.any_cons]
  cases c <;> cases decide (o[k].dst = p) <;> rfl
theorem anyC_stop {o : List Change} {k : Nat} {p : ByteArray} {G c : Bool} (hk : ¬ k < o.length) (H : G = (c || goesTo (o.drop k) p)) : G = c := by
  rw [H, drop_nil o k hk]
  unfold goesTo
  simp
theorem path_some {M : Option File} (h : ∀ g, M = some g → ¬ g.path = ⟨#[]⟩) : (M = none ∧ pathO M = ⟨#[]⟩) ∨ ∃ g, M = some g ∧ pathO M = g.path ∧ ¬ g.path = ⟨#[]⟩ := by
  cases M with
  | none => exact .inl ⟨rfl, rfl⟩
  | some g => exact .inr ⟨g, rfl, rfl, h g rfl⟩
end Go.Vc
namespace Go.Proofs.YthddcfbjgcbioaaGreatDoor
open Go.RowKit Go.Vc
open Go.Vc.Rep (rd)
open Go.Vc.Own (own)
theorem i64_9 {n : Nat} (h : n ≤ 9) : I64 (n : Int) := by unfold I64; omega
theorem cell_allocC {w : World} {p : Addr} {u : Value} (h : w.cell? p = some u) (o : Obj) : (w.alloc o).cell? p = some u :=
  (World.cell?_of_block (Below.heap_alloc w o p.block (World.block_lt_of_cell? w p h))).trans h
set_option maxHeartbeats 16000000 in
set_option maxRecDepth 100000 in
theorem l5Of_any {S T : Nat → Prop} (v u : Value) (a b : List File) (w : World) (hv : rd S w [v] a) (hu : rd T w [u] b) (ea : treeB a = true) (eb : treeB b = true) :
    Calls Tryz.prog 58 #[v, u] w fun e w' => ∃ v', e = .returned v' ∧ Fresh w.heap.size w'.heap.size w' [v'] (chT a b) ∧ Below w.heap.size w w' := by
  obtain ⟨a1, ca1, rfl, h1⟩ := rd_slice_elim (Rep.lt hv)
  obtain ⟨a2, ca2, rfl, h2⟩ := rd_slice_elim (Rep.lt hu)
  have HPF := Lib.hid (show ∀ g, g ∈ b → ¬ g.path = ⟨#[]⟩ from fun g hg => path_full eb hg)
  obtain ⟨l1, x1⟩ := tree_files ea
  obtain ⟨l2, x2⟩ := tree_files eb
  obtain ⟨o0, ho0⟩ : ∃ o0, chA a b a [] = o0 := ⟨_, rfl⟩
  obtain ⟨D, hD⟩ : ∃ D, D = chT a b := ⟨_, rfl⟩
  have HD : Hid (D = o0 ++ chB a o0 b) := by show _ = _; rw [hD, ← ho0]; rfl
  have HO0 : Hid (o0 = chA a b (a.drop 0) []) := ho0.symm
  rw [← hD]
  clear hv hu ea eb ho0 hD
  have hE0 : Fresh w.heap.size (w.alloc (.cells #[] 49)).heap.size (w.alloc (.cells #[] 49)) [.slice (some ⟨w.heap.size, 0, none⟩) 0 0] ([] : List Change) :=
    (FS.empty (β := Change) (by decide) (heap_alloc_new w (.cells #[] 49))).fresh (fun b hb hl => by have e : b = w.heap.size := hb; omega)
  go_enter Tryz.func58, Tryz.ntmps58
  go_wp2
  go_loopw [5, 6] (fun out i wr => (∃ (k : Nat) (ol : List Change), k ≤ a.length ∧ i = .int .i64 k ∧ ol.length ≤ k ∧ Fresh w.heap.size wr.heap.size wr [out] ol ∧ Hid (o0 = chA a b (a.drop k) ol)) ∧ Below w.heap.size w wr) (fun _ i _ => a.length - (intOf i).toNat)
  case atStart => exact ⟨⟨0, [], by omega, rfl, by simp, hE0, HO0.out⟩, (Below.refl _ _).alloc (Nat.le_refl _) _⟩
  case round =>
    obtain ⟨⟨k, ol, hk, rfl, hol, hF, HA⟩, hb⟩ := hrel
    clear HO0 hE0
    obtain ⟨wx, hwx⟩ : ∃ wx : World, wx = wr := ⟨_, rfl⟩
    subst hwx
    have hsx := hb.size
    obtain ⟨ao, co, hvo, _⟩ := hF.shape
    subst hvo
    by_cases hlt : k < a.length
    · obtain ⟨g, off, a9, c9, hag, q0, q1, hz1, hft⟩ := (h1.keep hb).file hlt
      subst hag
      have HS_ := Lib.hid (fun hg => chA_same HA.out hlt hg)
      have HE_ := Lib.hid (fun x hg h => chA_edit (x := x) HA.out hlt hg h)
      have HM_ := Lib.hid (fun hg g ht => chA_move (g := g) HA.out hlt hg ht)
      have HP_ := Lib.hid (fun hg ht => chA_drop HA.out hlt hg ht)
      have hx10 := x1 a[k] (List.getElem_mem hlt)
      obtain ⟨f, hf⟩ : ∃ f, f = a[k] := ⟨_, rfl⟩
      rw [← hf] at q0 q1 hz1 hft HS_ HE_ HM_ HP_ hx10
      obtain ⟨p, hp⟩ : ∃ p, p = f.path := ⟨_, rfl⟩
      obtain ⟨tx, htx⟩ : ∃ tx, tx = f.text := ⟨_, rfl⟩
      rw [← hp] at q0 hz1 HS_ HE_ HM_ HP_
      rw [← htx] at q1 hft HS_ HE_ HM_ HP_ hx10
      obtain ⟨M, hMg⟩ : ∃ M, getT b p = M := ⟨_, rfl⟩
      rw [hMg] at HS_ HE_ HM_ HP_
      have HMG := Lib.hid hMg
      clear hf hp htx hMg HA
      go_wp2_with fail
      refine (l4Get_in _ b p _ (h2.keep hb).rd HMG.out).mono ?_
      rintro e w1 ⟨vt, rfl, hT, rfl⟩
      obtain ⟨at_, ct, hvt, _⟩ := rd_slice_elim hT
      subst hvt
      cases M with
      | some x =>
        have e1 : (some x : Option (List ByteArray)).getD [] = x := rfl
        have e2 : (some x : Option (List ByteArray)).isSome = true := rfl
        rw [e1] at hT
        have hxl : x.length ≤ 10 := by
          obtain ⟨g9, hg9, _, rfl⟩ := getT_mem HMG.out
          exact x2 g9 hg9
        rw [e1, e2]
        clear e1 e2 HM_ HP_
        by_cases he : x = tx
        · have hd := decide_eq_true he
          have HN := Lib.hid (HS_.out (by rw [he]))
          clear he HS_ HE_
          go_wp2_with fail
          refine (l1Same_is _ _ x tx _ hT hft.rd hd).mono ?_
          rintro e w4 ⟨rfl, n4, he4⟩
          have hb4 : Below wx.heap.size wx w4 := by rw [he4]; exact below_drewN (Below.refl _ _) n4
          clear he4
          go_wp2
          go_roundw
          case rel => exact ⟨⟨k + 1, ol, by omega, by go_num, by omega, (hF.below (Nat.le_refl _) hb4).now, HN.out⟩, hb.trans (hb4.mono hsx)⟩
          case measure => simp [intOf] <;> omega
        · have hd := decide_eq_false he
          have HN := Lib.hid (HE_.out x rfl he)
          clear he HS_ HE_
          go_wp2_with fail
          refine (l1Same_is _ _ x tx _ hT hft.rd hd).mono ?_
          rintro e w4 ⟨rfl, n4, he4⟩
          have hb4 : Below wx.heap.size wx w4 := by rw [he4]; exact below_drewN (Below.refl _ _) n4
          clear he4
          have q0 := keepc q0 hb4
          have q1 := keepc q1 hb4
          have hF := (hF.below (Nat.le_refl _) hb4).now
          have hBx := hb.trans (hb4.mono hsx)
          have hs4 := hBx.size
          have hft := hft.keep (hb4.mono hsx)
          have hT := Rep.below hT (Nat.le_refl _) hb4
          have hgl : g < w.heap.size := by
            obtain ⟨g', off', us', he', hg', _⟩ := h1.2.2 k hlt
            simp at he'
            rw [he'.1]; exact hg'
          clear hd
          go_wp2_with fail
          first
          | (
            go_region_held3 (fun w' => w'.cell? ⟨g, off + k * 2, none⟩ = some (.string p) ∧ w'.cell? ⟨g, off + k * 2 + 1, none⟩ = some (.slice a9 tx.length c9))
              (first | exact K9 | exact ⟨cell_allocC KA.1 _, cell_allocC KA.2 _⟩ | exact KA | exact ⟨q0, q1⟩ | go_keep)
              (first
                | (go_at_call 76; refine (l1Of_any _ _ tx x _ (Rep.drew hft.rd) (Rep.drew hT) hx10 hxl).mono ?_; rintro e wA ⟨vA, rfl, hA, hbA⟩; have hszA : w4.heap.size ≤ wA.heap.size := hbA.size; obtain ⟨aA, cA, hvA, _⟩ := hA.shape; subst hvA; have KA := And.intro (keepc (w := w4.drew) q0 hbA) (keepc (w := w4.drew) q1 hbA))
                | (refine step_app_one slz_change.slt rfl (.tmp 44) (.tmp 58) rfl rfl ((hF.drew.below (Nat.le_refl _) hbA).alloc _) (by simp; omega) rfl (heap_alloc_new _ _) (Fresh.change (p := ⟨3, p, ⟨#[]⟩, [], diffT tx x⟩) (m0 := w4.heap.size) (m1 := w4.heap.size) (i64_9 (n := 3) (by omega)) hz1 (Nat.zero_le _) (Fresh.nil (β := ByteArray) _ _ _ Nat.one_pos) (hA.alloc _) (Nat.le_refl _) hszA) (by omega) (by omega) (by unfold maxLen; omega) ?_; intro a7 c7 w9 hG; have K9 := And.intro (hG.cell (cell_allocC KA.1 _) (.inl hgl)) (hG.cell (cell_allocC KA.2 _) (.inl hgl)))))
          | fail
          all_goals
            have hB9 := ((hBx.drew.trans (hbA.mono hs4)).alloc (by omega) (.cells #[.int .i64 3, .string p, .string ⟨#[]⟩, .slice none 0 0, .slice aA (diffT tx x).length cA] 49)).trans hG.below
            have hG9 := hG.fresh
            clear K9 KA hA hbA hG
            go_wp2
            go_roundw
            case rel => exact ⟨⟨k + 1, ol ++ [(⟨3, p, ⟨#[]⟩, [], diffT tx x⟩ : Change)], by omega, by go_num, by simp; omega, by simpa using hG9, HN.out⟩, hB9⟩
            case measure => simp [intOf] <;> omega
      | none =>
        have e2 : (none : Option (List ByteArray)).isSome = false := rfl
        rw [e2]
        have HMX := Lib.hid (fun g ht => HM_.out rfl g ht)
        have HPX := Lib.hid (fun ht => HP_.out rfl ht)
        clear e2 HS_ HE_ HM_ HP_ hT
        obtain ⟨MT, hMT⟩ : ∃ MT, chTo a b ol tx = MT := ⟨_, rfl⟩
        have hpO := path_some (M := MT) (fun g hg => HPF.out g (List.mem_of_find?_eq_some (by rw [← hg, ← hMT]; rfl)))
        go_wp2_with fail
        refine (l5Target_any _ _ _ _ a b tx ol _ (h1.keep hb).rd (h2.keep hb).rd hft.rd hF.rd hMT).mono ?_
        rintro e w4 ⟨rfl, hb4⟩
        have q0 := keepc q0 hb4
        have q1 := keepc q1 hb4
        have hF := (hF.below (Nat.le_refl _) hb4).now
        have hBx := hb.trans (hb4.mono hsx)
        have hs4 := hBx.size
        have hft := hft.keep (hb4.mono hsx)
        clear hb4
        rcases hpO with ⟨hM0, hp0⟩ | ⟨gf, hM1, hp1, hne⟩
        · have HN := Lib.hid (HPX.out (hMT.trans hM0))
          rw [hp0]
          have hgl : g < w.heap.size := by
            obtain ⟨g', off', us', he', hg', _⟩ := h1.2.2 k hlt
            simp at he'
            rw [he'.1]; exact hg'
          clear hM0 hp0 hMT HMX HPX
          go_wp2_with fail
          first
          | (
            go_region_held3 (fun w' => w'.cell? ⟨g, off + k * 2, none⟩ = some (.string p) ∧ w'.cell? ⟨g, off + k * 2 + 1, none⟩ = some (.slice a9 tx.length c9))
              (first | exact K9 | exact ⟨cell_allocC KA.1 _, cell_allocC KA.2 _⟩ | exact KA | exact ⟨q0, q1⟩ | exact ⟨cell_allocC q0 _, cell_allocC q1 _⟩ | go_keep)
              (first
                | (refine step_app_leafS slz_string.slt rfl (.tmp 88) (.tmp 93) rfl rfl (FS.empty (β := ByteArray) (w := (w4.alloc (.cells #[] 9)).drew) (by decide) (heap_alloc_new w4 _)) rfl rfl ((hft.alloc _).drew) (by simp; omega) (by unfold maxLen; simp; omega) ?_; intro aA cA wA hA; have hszA : w4.heap.size + 1 ≤ wA.heap.size := (by have := hA.size; simpa using this); have hbA : Below w4.heap.size w4 wA := (((Below.refl _ _).alloc (Nat.le_refl _) _).drew).trans (hA.below w4.heap.size (by simp) (fun b hb _ => by have e : b = w4.heap.size := hb; omega)); have hAF : Fresh w4.heap.size wA.heap.size wA [.slice aA tx.length cA] tx := (by have := hA.fs.fresh (B := w4.heap.size) (m := wA.heap.size) (fun b hb hl => (by rcases hb with hb | hb; (have e : b = w4.heap.size := hb; omega); (simp at hb; omega))); simpa using this); have KA := And.intro (keepc q0 hbA) (keepc q1 hbA))
                | (refine step_app_one slz_change.slt rfl (.tmp 82) (.tmp 96) rfl rfl ((hF.below (Nat.le_refl _) hbA).alloc _) (by simp; omega) rfl (heap_alloc_new _ _) (Fresh.change (p := ⟨2, p, ⟨#[]⟩, tx, []⟩) (m0 := w4.heap.size) (m1 := wA.heap.size) (m2 := wA.heap.size) (i64_9 (n := 2) (by omega)) hz1 (Nat.zero_le _) (hAF.alloc _) (Fresh.nil (β := Hunk) _ _ _ (by decide)) (by omega) (Nat.le_refl _)) (by omega) (by omega) (by unfold maxLen; omega) ?_; intro a7 c7 w9 hG; have K9 := And.intro (hG.cell (cell_allocC KA.1 _) (.inl hgl)) (hG.cell (cell_allocC KA.2 _) (.inl hgl)))))
          | fail
          all_goals
            have hB9 := ((hBx.trans (hbA.mono hs4)).alloc (by omega) (.cells #[.int .i64 2, .string p, .string ⟨#[]⟩, .slice aA tx.length cA, .slice none 0 0] 49)).trans hG.below
            have hG9 := hG.fresh
            clear K9 KA hA hbA hG hAF
            go_wp2
            go_roundw
            case rel => exact ⟨⟨k + 1, ol ++ [(⟨2, p, ⟨#[]⟩, tx, []⟩ : Change)], by omega, by go_num, by simp; omega, by simpa using hG9, HN.out⟩, hB9⟩
            case measure => simp [intOf] <;> omega
        · have HN := Lib.hid (HMX.out gf (hMT.trans hM1))
          have hgz : gf.path.size ≤ maxLen := by
            obtain ⟨i9, hi9, e9⟩ := List.mem_iff_getElem.1 (List.mem_of_find?_eq_some (show b.find? (mayB a ol tx) = some gf by rw [← hM1, ← hMT]; rfl))
            obtain ⟨_, _, _, _, _, _, _, hz9, _⟩ := h2.file hi9
            rw [← e9]; exact hz9
          rw [hp1]
          have hdn : decide (gf.path = (⟨#[]⟩ : ByteArray)) = false := decide_eq_false hne
          have hdn2 := empty_f hne
          clear hM1 hp1 hne hMT HMX HPX
          go_wp2_with (at_builtin; (refine wpList_app_one slz_change.slt rfl (.tmp 72) (.tmp 80) rfl rfl (hF.alloc _) (by simp; omega) rfl (heap_alloc_new _ _) (Fresh.alloc (Fresh.change (p := ⟨4, p, gf.path, [], []⟩) (m0 := w4.heap.size) (m1 := w4.heap.size) (m2 := w4.heap.size) (i64_9 (n := 4) (by omega)) hz1 hgz (Fresh.nil (β := ByteArray) _ _ _ Nat.one_pos) (Fresh.nil (β := Hunk) _ _ _ (by decide)) (Nat.le_refl _) (Nat.le_refl _)) _) (by omega) (by omega) (by unfold maxLen; omega) ?_); intro a7 c7 w9 hG)
          have hB9 := (hBx.alloc hs4 (.cells #[.int .i64 4, .string p, .string gf.path, .slice none 0 0, .slice none 0 0] 49)).trans hG.below
          have hG9 := hG.fresh
          go_roundw
          case rel => exact ⟨⟨k + 1, ol ++ [(⟨4, p, gf.path, [], []⟩ : Change)], by omega, by go_num, by simp; omega, by simpa using hG9, HN.out⟩, hB9⟩
          case measure => simp [intOf] <;> omega
    · obtain rfl : o0 = ol := chA_end HA.out hlt
      have hF0 : Fresh w.heap.size wx.heap.size wx [.slice ao o0.length co] (o0 ++ []) := by rw [List.append_nil]; exact hF
      have HD0 : Hid (D = (o0 ++ []) ++ chB a o0 (b.drop 0)) := by show _ = _; rw [List.append_nil]; exact HD.out
      have ho9 : o0.length ≤ 8 := by omega
      clear HA hF HD
      go_wp2
      go_loopw [5, 11] (fun out i wr => (∃ (k : Nat) (ad : List Change), k ≤ b.length ∧ i = .int .i64 k ∧ ad.length ≤ k ∧ Fresh w.heap.size wr.heap.size wr [out] (o0 ++ ad) ∧ Hid (D = (o0 ++ ad) ++ chB a o0 (b.drop k))) ∧ Below w.heap.size w wr) (fun _ i _ => b.length - (intOf i).toNat)
      case atStart => exact ⟨⟨0, [], by omega, rfl, by simp, hF0, HD0.out⟩, hb⟩
      case round =>
        clear hF0 HD0 hb hk hol
        obtain ⟨⟨k, ad, hk, rfl, had, hF, HA⟩, hb⟩ := hrel
        obtain ⟨wy, hwy⟩ : ∃ wy : World, wy = wr := ⟨_, rfl⟩
        subst hwy
        have hsy := hb.size
        obtain ⟨ay, cy, hvy, _⟩ := hF.shape
        subst hvy
        rw [List.length_append] at hF
        have hnl : o0.length + ad.length ≤ 16 := by omega
        by_cases hlt2 : k < b.length
        · obtain ⟨g, off, a9, c9, hag, q0, q1, hz1, hft⟩ := (h2.keep hb).file hlt2
          subst hag
          have HY_ := Lib.hid (fun h => chB_yes HA.out hlt2 h)
          have HN_ := Lib.hid (fun h => chB_no HA.out hlt2 h)
          have hx10 := x2 b[k] (List.getElem_mem hlt2)
          have hgl : g < w.heap.size := by
            obtain ⟨g', off', us', he', hg', _⟩ := h2.2.2 k hlt2
            simp at he'
            rw [he'.1]; exact hg'
          obtain ⟨f, hf⟩ : ∃ f, f = b[k] := ⟨_, rfl⟩
          rw [← hf] at q0 q1 hz1 hft HY_ HN_ hx10
          obtain ⟨p, hp⟩ : ∃ p, p = f.path := ⟨_, rfl⟩
          obtain ⟨tx, htx⟩ : ∃ tx, tx = f.text := ⟨_, rfl⟩
          obtain ⟨M, hMg⟩ : ∃ M, getT a p = M := ⟨_, rfl⟩
          obtain ⟨G, hG⟩ : ∃ G, goesTo o0 p = G := ⟨_, rfl⟩
          have HNEW : Hid (newB a o0 f = (M.isNone && !G)) := by show newB a o0 f = _; rw [← hMg, ← hG, hp]; rfl
          have HG0 : Hid (G = (false || goesTo (o0.drop 0) p)) := by show G = _; rw [← hG]; simp
          rw [← hp] at q0 hz1 HY_
          rw [← htx] at q1 hft hx10 HY_
          have HMG := Lib.hid hMg
          clear hf hp htx hMg hG HA
          go_wp2_with fail
          refine (l4Get_in _ a p _ (h1.keep hb).rd HMG.out).mono ?_
          rintro e w1 ⟨vt, rfl, hT, rfl⟩
          obtain ⟨at_, ct, hvt, _⟩ := rd_slice_elim hT
          subst hvt
          clear hT
          go_wp2
          go_loopw [14, 15] (fun mv i wr => (∃ (j : Nat) (c : Bool), j ≤ o0.length ∧ i = .int .i64 j ∧ mv = .bool c ∧ Hid (G = (c || goesTo (o0.drop j) p))) ∧ Below wy.heap.size wy wr) (fun _ i _ => o0.length - (intOf i).toNat)
          case atStart => exact ⟨⟨0, false, by omega, rfl, rfl, HG0.out⟩, Below.refl _ _⟩
          case round =>
            clear HG0
            obtain ⟨⟨j, c, hj, rfl, rfl, HB⟩, hb2⟩ := hrel
            obtain ⟨wz, hwz⟩ : ∃ wz : World, wz = wr := ⟨_, rfl⟩
            subst hwz
            have hsz := hb2.size
            have hBz := hb.trans (hb2.mono hsy)
            have q0z := keepc q0 hb2
            by_cases hlj : j < o0.length
            · have hjn : j < (o0 ++ ad).length := by rw [List.length_append]; omega
              obtain ⟨g1, off1, e3, f3, e4, f4, hag1, r0, r1, r2, r3, r4, hi0, hy1, hy2, hy3, hy4⟩ := (rd_slice_of hF.rd2).2.change hjn
              obtain ⟨g6, hg6, _⟩ := hF.addr (by omega)
              rw [hg6] at hag1
              simp only [Option.some.injEq, Addr.mk.injEq, and_true] at hag1
              obtain ⟨rfl, rfl⟩ := hag1
              subst hg6
              have hdst : (o0 ++ ad)[j].dst = o0[j].dst := by rw [List.getElem_append_left hlj]
              rw [hdst] at r2 hy2
              rw [Nat.zero_add] at r2
              have HN := Lib.hid (anyC_next hlj HB.out)
              obtain ⟨d, hd⟩ : ∃ d, d = o0[j].dst := ⟨_, rfl⟩
              rw [← hd] at r2 HN hy2
              have z1 := BW.cell (keepc r2 hb2)
              have z2 := BW.cell q0z
              have hjn2 : (j : Int) < (o0.length : Int) + (ad.length : Int) := by omega
              clear hd r0 r1 r3 r4 hy3 hy4 HB hdst
              cases c with
              | true =>
                go_wp2
                refine wp_region_bw (by kernel_rfl) (by kernel_rfl) ?_
                repeat (go_big_quiet_step (fail))
                refine wpQuiet_nil ?_
                rintro w1 ⟨⟨_, hbw⟩, rfl⟩
                go_wp2
                go_roundw
                case rel => exact ⟨⟨j + 1, true, by omega, by go_num, rfl, HN.out⟩, hb2.trans (hbw.mono hsz)⟩
                case measure => simp [intOf] <;> omega
              | false =>
                by_cases he : d = p
                · have hd : decide (d = p) = true := decide_eq_true he
                  have HN2 := Lib.hid (show G = (true || goesTo (o0.drop (j + 1)) p) by have := HN.out; rw [hd] at this; exact this)
                  clear he HN
                  go_wp2
                  refine wp_region_bw (by kernel_rfl) (by kernel_rfl) ?_
                  repeat (go_big_quiet_step (fail))
                  refine wpQuiet_nil ?_
                  rintro w1 ⟨⟨_, hbw⟩, rfl⟩
                  go_wp2
                  go_roundw
                  case rel => exact ⟨⟨j + 1, true, by omega, by go_num, rfl, HN2.out⟩, hb2.trans (hbw.mono hsz)⟩
                  case measure => simp [intOf] <;> omega
                · have hd : decide (d = p) = false := decide_eq_false he
                  have HN2 := Lib.hid (show G = (false || goesTo (o0.drop (j + 1)) p) by have := HN.out; rw [hd] at this; exact this)
                  clear he HN
                  go_wp2
                  refine wp_region_bw (by kernel_rfl) (by kernel_rfl) ?_
                  repeat (go_big_quiet_step (fail))
                  refine wpQuiet_nil ?_
                  rintro w1 ⟨⟨_, hbw⟩, rfl⟩
                  go_wp2
                  go_roundw
                  case rel => exact ⟨⟨j + 1, false, by omega, by go_num, rfl, HN2.out⟩, hb2.trans (hbw.mono hsz)⟩
                  case measure => simp [intOf] <;> omega
            · have HC := Lib.hid (anyC_stop hlj HB.out)
              have hFz := (hF.below (Nat.le_refl _) hb2).now
              have q1z := keepc q1 hb2
              have hfz := hft.keep (hb2.mono hsy)
              have hs4 := hBz.size
              clear HB hF q0 q1 hft
              cases M with
              | some y =>
                have HZ := Lib.hid (HN_.out (by rw [HNEW.out]; rfl))
                have e1 : (some y : Option (List ByteArray)).isSome = true := rfl
                rw [e1]
                go_wp2
                go_roundw
                case rel => exact ⟨⟨k + 1, ad, by omega, by go_num, by omega, hFz, HZ.out⟩, hBz⟩
                case measure => simp [intOf] <;> omega
              | none =>
                have e1 : (none : Option (List ByteArray)).isSome = false := rfl
                rw [e1]
                clear e1
                cases c with
                | true =>
                  have HZ := Lib.hid (HN_.out (by rw [HNEW.out, HC.out]; rfl))
                  go_wp2
                  go_roundw
                  case rel => exact ⟨⟨k + 1, ad, by omega, by go_num, by omega, hFz, HZ.out⟩, hBz⟩
                  case measure => simp [intOf] <;> omega
                | false =>
                  have HZ := Lib.hid (HY_.out (by rw [HNEW.out, HC.out]; rfl))
                  go_wp2_with fail
                  first
                  | (
                    go_region_held3 (fun w' => w'.cell? ⟨g, off + k * 2, none⟩ = some (.string p) ∧ w'.cell? ⟨g, off + k * 2 + 1, none⟩ = some (.slice a9 tx.length c9))
                      (first | exact K9 | exact ⟨cell_allocC KA.1 _, cell_allocC KA.2 _⟩ | exact KA | exact ⟨q0z, q1z⟩ | exact ⟨cell_allocC q0z _, cell_allocC q1z _⟩ | go_keep)
                      (first
                        | (refine step_app_leafS slz_string.slt rfl (.tmp 147) (.tmp 152) rfl rfl (FS.empty (β := ByteArray) (w := (wz.alloc (.cells #[] 9)).drew) (by decide) (heap_alloc_new wz _)) rfl rfl ((hfz.alloc _).drew) (by simp; omega) (by unfold maxLen; simp; omega) ?_; intro aA cA wA hA; have hszA : wz.heap.size + 1 ≤ wA.heap.size := (by have := hA.size; simpa using this); have hbA : Below wz.heap.size wz wA := (((Below.refl _ _).alloc (Nat.le_refl _) _).drew).trans (hA.below wz.heap.size (by simp) (fun b hb _ => by have e : b = wz.heap.size := hb; omega)); have hAF : Fresh wz.heap.size wA.heap.size wA [.slice aA tx.length cA] tx := (by have := hA.fs.fresh (B := wz.heap.size) (m := wA.heap.size) (fun b hb hl => (by rcases hb with hb | hb; (have e : b = wz.heap.size := hb; omega); (simp at hb; omega))); simpa using this); have KA := And.intro (keepc q0z hbA) (keepc q1z hbA))
                        | (refine step_app_one slz_change.slt rfl (.tmp 141) (.tmp 155) rfl rfl ((hFz.below (Nat.le_refl _) hbA).alloc _) (by simp; omega) rfl (heap_alloc_new _ _) (Fresh.change (p := ⟨1, p, ⟨#[]⟩, tx, []⟩) (m0 := wz.heap.size) (m1 := wA.heap.size) (m2 := wA.heap.size) (i64_9 (n := 1) (by omega)) hz1 (Nat.zero_le _) (hAF.alloc _) (Fresh.nil (β := Hunk) _ _ _ (by decide)) (by omega) (Nat.le_refl _)) (by omega) (by simp; omega) (by unfold maxLen; simp; omega) ?_; intro a7 c7 w9 hG; have K9 := And.intro (hG.cell (cell_allocC KA.1 _) (.inl hgl)) (hG.cell (cell_allocC KA.2 _) (.inl hgl)))))
                  | fail
                  all_goals
                    have hB9 := ((hBz.trans (hbA.mono hs4)).alloc (by omega) (.cells #[.int .i64 1, .string p, .string ⟨#[]⟩, .slice aA tx.length cA, .slice none 0 0] 49)).trans hG.below
                    have hG9 := hG.fresh
                    rw [List.append_assoc] at hG9
                    have HZ2 := Lib.hid (show D = (o0 ++ (ad ++ [⟨1, p, ⟨#[]⟩, tx, []⟩])) ++ chB a o0 (b.drop (k + 1)) by rw [← List.append_assoc]; exact HZ.out)
                    clear K9 KA hA hbA hG hAF HZ
                    go_wp2
                    go_roundw
                    case rel => exact ⟨⟨k + 1, ad ++ [(⟨1, p, ⟨#[]⟩, tx, []⟩ : Change)], by omega, by go_num, by simp; omega, by simpa using hG9, HZ2.out⟩, hB9⟩
                    case measure => simp [intOf] <;> omega
        · have HE := Lib.hid (chB_end HA.out hlt2)
          go_wp2
          go_ret
          have hF9 := hF
          rw [← List.length_append] at hF9
          exact ⟨.slice ay (o0 ++ ad).length cy, (by first | rfl | (simp; done)), (by rw [HE.out]; exact hF9), hb⟩
theorem specChangesOf {S T : Nat → Prop} (v u : Value) (a b : List File) (w : World) (hv : rd S w [v] a) (hu : rd T w [u] b) :
    Calls Tryz.prog 37 #[v, u] w fun e w' => ∃ v', e = .returned v' ∧ Fresh w.heap.size w'.heap.size w' [v'] (changesOf a b) ∧ Below w.heap.size w w' := by
  obtain ⟨a1, c1, rfl, h1⟩ := rd_slice_elim (Rep.lt hv)
  obtain ⟨a2, c2, rfl, h2⟩ := rd_slice_elim (Rep.lt hu)
  clear hv hu
  cases ea : treeB a with
  | false =>
    have HD : Hid (changesOf a b = []) := by show _ = _; rw [changesOf, if_neg (by rw [ea]; simp)]
    go_enter Tryz.func37, Tryz.ntmps37
    go_wp2_with fail
    refine (l4Ok_is _ a _ h1.rd ea).mono ?_
    rintro e w1 ⟨rfl, hW⟩
    go_wp2
    go_ret
    exact ⟨_, rfl, by rw [HD.out]; exact Fresh.nil _ _ _ (by decide), hW⟩
  | true =>
    cases eb : treeB b with
    | false =>
      have HD : Hid (changesOf a b = []) := by show _ = _; rw [changesOf, if_neg (by rw [eb]; simp)]
      go_enter Tryz.func37, Tryz.ntmps37
      go_wp2_with fail
      refine (l4Ok_is _ a _ h1.rd ea).mono ?_
      rintro e w1 ⟨rfl, hW1⟩
      go_wp2_with fail
      refine (l4Ok_is _ b _ (h2.keep hW1).rd eb).mono ?_
      rintro e w2 ⟨rfl, hW2⟩
      go_wp2
      go_ret
      exact ⟨_, rfl, by rw [HD.out]; exact Fresh.nil _ _ _ (by decide), hW1.trans (hW2.mono hW1.size)⟩
    | true =>
      have HD : Hid (changesOf a b = chT a b) := by show _ = _; rw [changesOf, if_pos ⟨ea, eb⟩]
      go_enter Tryz.func37, Tryz.ntmps37
      go_wp2_with fail
      refine (l4Ok_is _ a _ h1.rd ea).mono ?_
      rintro e w1 ⟨rfl, hW1⟩
      go_wp2_with fail
      refine (l4Ok_is _ b _ (h2.keep hW1).rd eb).mono ?_
      rintro e w2 ⟨rfl, hW2⟩
      have hW := hW1.trans (hW2.mono hW1.size)
      have hsW := hW.size
      go_wp2_with fail
      refine (l5Of_any _ _ a b _ (h1.keep hW).rd (h2.keep hW).rd ea eb).mono ?_
      rintro e w3 ⟨v', rfl, hF, hb3⟩
      go_wp2
      go_ret
      exact ⟨v', rfl, by rw [HD.out]; exact hF.mono hsW (Nat.le_refl _), hW.trans (hb3.mono hsW)⟩
end Go.Proofs.YthddcfbjgcbioaaGreatDoor
namespace Go.Proofs.YthddcfbjgcbioaaGreatDoor
open Go.RowKit Go.Vc
open Go.Vc.Rep (rd)
open Go.Vc.Own (own)
end Go.Proofs.YthddcfbjgcbioaaGreatDoor
