/-
  Walks: changes made at a tree, as the program has it.
-/
import Derived.Test.YthddcfbjgcbioaaGreatDoorVD1
import Derived.Test.YthddcfbjgcbioaaGreatDoorVCK
import Derived.Test.YthddcfbjgcbioaaGreatDoorVIN
import Derived.Test.YthddcfbjgcbioaaGreatDoorV2P
import Derived.Test.YthddcfbjgcbioaaGreatDoorWCTree
import Derived.Test.YthddcfbjgcbioaaGreatDoorVFS
import Derived.Test.YthddcfbjgcbioaaGreatDoorBase
set_option linter.unusedVariables false
namespace Go.Vc
open Go.RowKit Go.Proofs
open Rep (rd)
open Own (own)
/-- the files that are left: their row, in place -/
def OutR (N : Nat) (w : World) (g cap : Nat) (v : Value) (rs : List (Raw File)) : Prop := (v = .slice none 0 0 ∧ rs = []) ∨ (g < N ∧ v = .slice (some ⟨g, 0, none⟩) rs.length cap ∧ RowR w g cap rs)
/-- what they read as -/
def RawsF (T : Nat → Prop) (w : World) (rs : List (Raw File)) (o : List File) : Prop := All2 (fun r x => Rep.rd T w (Raw.vs r) x) rs o
theorem OutR.keep {N g cap : Nat} {w w' : World} {v : Value} {rs : List (Raw File)} (h : OutR N w g cap v rs) (hk : ∀ b, b < N → w'.heap[b]? = w.heap[b]?) : OutR N w' g cap v rs := by
  rcases h with h | ⟨h1, h2, h3⟩
  · exact .inl h
  · exact .inr ⟨h1, h2, h3.keep (hk g h1)⟩
theorem RawsF.at {T T' : Nat → Prop} {w w' : World} {rs : List (Raw File)} {o : List File} (h : RawsF T w rs o) (hk : ∀ b, T b → b < w.heap.size → w'.heap[b]? = w.heap[b]? ∧ T' b) : RawsF T' w' rs o :=
  All2.mono (fun _ _ hr => Rep.frame hk hr) h
theorem rd_none0 (w : World) : rd (fun _ => False) w [.slice none 0 0] ([] : List File) := by
  obtain ⟨F, ho, _, hb⟩ := Fresh.nil (β := File) 1 0 w (by decide)
  exact Rep.mono (fun b h => (by have := hb b h; omega)) (Own.rd_of ho)
theorem OutR.read {N g cap : Nat} {T : Nat → Prop} {w : World} {v : Value} {rs : List (Raw File)} {o : List File} (h : OutR N w g cap v rs) (h2 : RawsF T w rs o) : rd (fun b => b = g ∨ T b) w [v] o := by
  rcases h with ⟨rfl, rfl⟩ | ⟨_, rfl, h3⟩
  · have hl := All2.len h2
    have : o = [] := List.eq_nil_of_length_eq_zero hl.symm
    subst this
    exact Rep.mono (S := fun _ => False) (fun b hb => hb.elim) (rd_none0 _)
  · have := (h3.isSlice (by decide)).unraw h2
    rw [All2.len h2]
    exact this.rd
theorem RowR.file {g cap : Nat} {w : World} {rs : List (Raw File)} (h : RowR w g cap rs) {j : Nat} (hj : j < rs.length) {u0 u1 : Value} (hu : rs[j].vs = [u0, u1]) : w.cell? ⟨g, j * 2, none⟩ = some u0 ∧ w.cell? ⟨g, j * 2 + 1, none⟩ = some u1 := by
  refine ⟨h.cell ?_, h.cell ?_⟩
  · have := raw_flat_at rs hj (j := 0) (show 0 < Rep.sz File from by decide)
    rw [hu] at this
    exact this
  · have := raw_flat_at rs hj (j := 1) (show 1 < Rep.sz File from by decide)
    rw [hu] at this
    exact this
theorem All2.erase {α β : Type} {R : α → β → Prop} : ∀ {aas : List α} {bs : List β} (j : Nat), All2 R aas bs → All2 R (aas.eraseIdx j) (bs.eraseIdx j)
  | [], [], _, _ => trivial
  | _ :: _, _ :: _, 0, h => h.2
  | _ :: _, _ :: _, j + 1, h => ⟨h.1, All2.erase j h.2⟩
  | [], _ :: _, _, h => h.elim
  | _ :: _, [], _, h => h.elim
/-- an own row, its elements' data aside -/
theorem out_of {B : Nat} {w : World} {v : Value} {t : List File} (h : Fresh B w.heap.size w [v] t) (hB : B ≤ w.heap.size) :
    ∃ (g cap : Nat) (rs : List (Raw File)), B ≤ g ∧ OutR w.heap.size w g cap v rs ∧ RawsF (fun b => b < w.heap.size ∧ b ≠ g) w rs t := by
  obtain ⟨H, rs, h1, h2, h3, h4⟩ := h.toRaw
  rcases h2.row with ⟨rfl, rfl⟩ | ⟨g, cap, rfl, k1, k2, k3, k4⟩
  · exact ⟨w.heap.size, 0, [], hB, .inl ⟨rfl, rfl⟩, h3.mono fun r x hr => Rep.mono (fun b hb => ⟨(h4 b hb).2.1, by have := (h4 b hb).2.1; omega⟩) hr⟩
  · exact ⟨g, cap, rs, k1, .inr ⟨k2, rfl, k4⟩, h3.mono fun r x hr => Rep.mono (fun b hb => ⟨(h4 b hb).2.1, fun e => k3 (e ▸ hb)⟩) hr⟩
theorem map_snoc {α β : Type} (f : α → β) (xs : List α) (k : Nat) (h : k < xs.length) : (xs.take (k + 1)).map f = (xs.take k).map f ++ [f xs[k]] := by
  rw [List.take_succ_eq_append_getElem h, List.map_append]; rfl
theorem taken_add {t : List File} {c : Change} (h : c.kind = 1) : takenF t c = ⟨c.path, c.text⟩ := by unfold takenF; rw [if_pos h]
theorem taken_old {t : List File} {c : Change} (h : ¬ c.kind = 1) {x : List ByteArray} (hg : getT t c.path = some x) : takenF t c = ⟨c.path, x⟩ := by unfold takenF; rw [if_neg h, hg]; rfl
theorem cell_alloc {w : World} {p : Addr} {u : Value} (h : w.cell? p = some u) (o : Obj) : (w.alloc o).cell? p = some u :=
  (World.cell?_of_block (Below.heap_alloc w o p.block (World.block_lt_of_cell? w p h))).trans h
theorem IsSlice.rawfile {S : Nat → Prop} {w : World} {a : Option Addr} {cap : Nat} {us : List (Raw File)} (h : IsSlice S w a cap us) {k : Nat} (hk : k < us.length) {u0 u1 : Value} (hv : us[k].vs = [u0, u1]) :
    ∃ g off, a = some ⟨g, off, none⟩ ∧ w.cell? ⟨g, off + k * 2, none⟩ = some u0 ∧ w.cell? ⟨g, off + k * 2 + 1, none⟩ = some u1 := by
  obtain ⟨g, off, uv, h1, _, h3, h4⟩ := h.elem hk
  have h4 : uv = us[k].vs := h4
  rw [h4, hv] at h3
  exact ⟨g, off, h1, h3 0 _ rfl, h3 1 _ rfl⟩
theorem Below.setCell0 {B : Nat} {w w' : World} (h : Below B w w') (p : Addr) (u : Value) : Below B w w' := h
end Go.Vc
namespace Go.Proofs.YthddcfbjgcbioaaGreatDoor
open Go.RowKit Go.Vc
open Go.Vc.Rep (rd)
open Go.Vc.Own (own)
set_option maxHeartbeats 8000000 in
set_option maxRecDepth 100000 in
theorem implChangesDo {S T : Nat → Prop} (v u : Value) (t : List File) (list : List Change) (w : World) (hv : rd S w [v] t) (hu : rd T w [u] list) (hSt : ∀ f, f ∈ t → ShortS f.path) (hS : ∀ c, c ∈ list → ShortS c.path ∧ ShortS c.dst) (hM : ML w) :
    Calls Tryz.prog 5 #[v, u] w fun e w' => ∃ v', e = .returned (.tuple #[v', .bool (changesDo t list).2]) ∧ rd (fun b => b < w'.heap.size) w' [v'] (changesDo t list).1 ∧ Below w.heap.size w w' := by
  obtain ⟨at1, ct1, rfl, hts⟩ := rd_slice_elim (Rep.lt hv)
  obtain ⟨al1, cl1, rfl, hls⟩ := rd_slice_elim (Rep.lt hu)
  cases hb1 : treeB t with
  | false =>
    have HR := Lib.hid (changesDo_bad (list := list) (.inl hb1))
    go_enter Tryz.func5, Tryz.ntmps5
    go_wp2_with fail
    refine (treeOk_is _ t _ hts.rd hSt hM hb1).mono ?_
    rintro e w1 ⟨rfl, hbb⟩
    go_wp2
    go_ret2
    exact ⟨.slice none 0 0, by rw [HR.out]; rfl, by rw [HR.out]; exact Rep.lt (Fresh.nil (β := File) 0 0 _ (by decide)).rd, hbb⟩
  | true =>
    cases hb2 : changesB list with
    | false =>
      have HR := Lib.hid (changesDo_bad (t := t) (.inr hb2))
      go_enter Tryz.func5, Tryz.ntmps5
      go_wp2_with fail
      refine (treeOk_is _ t _ hts.rd hSt hM hb1).mono ?_
      rintro e w1 ⟨rfl, hbb⟩
      go_wp2_with fail
      refine (changesOk_is _ list _ (hls.keep hbb).rd hS (hM.keep hbb) hb2).mono ?_
      rintro e w2 ⟨rfl, hbb2⟩
      go_wp2
      go_ret2
      exact ⟨.slice none 0 0, by rw [HR.out]; rfl, by rw [HR.out]; exact Rep.lt (Fresh.nil (β := File) 0 0 _ (by decide)).rd, hbb.trans (hbb2.mono hbb.size)⟩
    | true =>
      obtain ⟨x1, x2⟩ := tree_files hb1
      obtain ⟨l1, l2, l3⟩ := (changesB_iff list).1 hb2
      go_enter Tryz.func5, Tryz.ntmps5
      go_wp2_with fail
      refine (treeOk_is _ t _ hts.rd hSt hM hb1).mono ?_
      rintro e w1 ⟨rfl, hbb1⟩
      go_wp2_with fail
      refine (changesOk_is _ list _ (hls.keep hbb1).rd hS (hM.keep hbb1) hb2).mono ?_
      rintro e w2 ⟨rfl, hbb2⟩
      have hbb2 := hbb1.trans (hbb2.mono hbb1.size)
      go_wp2_with fail
      refine (copyTree_any _ t _ (hts.keep hbb2).rd (by omega) x2).mono ?_
      rintro e w3 ⟨v3, rfl, hF3, hbb3⟩
      have hs23 := hbb3.size
      have hs2 := hbb2.size
      have hW := hbb2.trans (hbb3.mono hs2)
      have hsW := hW.size
      have hM3 := hM.keep hW
      have hls3 := hls.keep hW
      obtain ⟨g, cap, rs0, hgB, hO0, hR0⟩ := out_of hF3 hs23
      have hgW : w.heap.size ≤ g := by omega
      obtain ⟨ao3, co3, hv3, _⟩ := hF3.shape
      subst hv3
      obtain ⟨M, hMM⟩ : ∃ M, takeC t list t = M := ⟨_, rfl⟩
      have HM1 : Hid (M = takeC t (list.drop 0) t) := hMM.symm
      have HBT := Lib.hid hb1
      have HBL := Lib.hid hb2
      have HAsc : Hid (AscF t) := asc_tree hb1
      have HMM := Lib.hid hMM
      have HN3 := Lib.hid l3
      clear hF3 hbb1 hbb2 hbb3 hMM hb1 hb2 hv hu
      go_wp2
      go_loopw [6, 7, 30] (fun ov tv i wr => (∃ (k : Nat) (rs us : List (Raw File)) (o : List File), k ≤ list.length ∧ i = .int .i64 k ∧ OutR w3.heap.size wr g cap ov rs ∧ RawsF (fun b => b < w3.heap.size ∧ b ≠ g) w3 rs o ∧ FS (fun b => w3.heap.size ≤ b ∧ b < wr.heap.size) wr [tv] us ∧ RawsF (fun b => b < w3.heap.size ∧ b ≠ g) w3 us ((list.take k).map (takenF t)) ∧ Hid (M = takeC t (list.drop k) o) ∧ Hid (∀ c, c ∈ list.drop k → getT o c.path = getT t c.path) ∧ Hid (AscF o) ∧ o.length ≤ 8) ∧ Below w.heap.size w wr ∧ w3.heap.size ≤ wr.heap.size ∧ ∀ b, b < w3.heap.size → b ≠ g → wr.heap[b]? = w3.heap[b]?) (fun _ _ i _ => list.length - (intOf i).toNat)
      case atStart => exact ⟨⟨0, rs0, [], t, by omega, rfl, hO0, hR0, (Fresh.nil (β := Raw File) w3.heap.size w3.heap.size _ (by decide)).fs, trivial, HM1, fun c _ => rfl, HAsc, x1⟩, hW, Nat.le_refl _, fun _ _ _ => rfl⟩
      case round =>
        obtain ⟨⟨k, rs, us, o, hk, rfl, hO, hR, hF, hU, HA, HP, HS, ho8⟩, hbr, hsr, hrest⟩ := hrel
        clear HM1 HAsc hO0 hR0
        have hszr := hbr.size
        have hul := All2.len hU
        rw [List.length_map, List.length_take, Nat.min_eq_left hk] at hul
        obtain ⟨a7, c7, hv7, _⟩ := rd_slice_elim hF.rd
        subst hv7
        by_cases hlt : k < list.length
        · obtain ⟨g1, off, a3, c3, a4, c4, hag, e0, e1, e2, e3, e4, hi0, hz1, hz2, h3, h4⟩ := hls.change hlt
          subst hag
          have e0 := keepc e0 hbr
          have e1 := keepc e1 hbr
          have e2 := keepc e2 hbr
          have e3 := keepc e3 hbr
          have e4 := keepc e4 hbr
          have hcb := l2 list[k] (List.getElem_mem hlt)
          have HTA := Lib.hid (fun h1 => take_add HA.out hlt h1)
          have HTG := Lib.hid (fun h1 h2 => take_gone HA.out hlt h1 h2)
          have HTO := Lib.hid (fun h1 (x : List ByteArray) h2 h3 => take_other HA.out hlt h1 (x := x) h2 h3)
          have HTT := Lib.hid (fun h1 (x : List ByteArray) h2 h3 => take_out HA.out hlt h1 (x := x) h2 h3)
          have HPS := Lib.hid (ahead_same hlt HP.out)
          have HPN := Lib.hid (ahead_next HN3.out hlt HP.out)
          have HPk := Lib.hid (HP.out list[k] (by rw [drop_cons list k hlt]; exact List.mem_cons_self ..))
          have HSN := Lib.hid (map_snoc (takenF t) list k hlt)
          obtain ⟨c, hc⟩ : ∃ c, c = list[k] := ⟨_, rfl⟩
          rw [← hc] at e0 e1 e2 e3 e4 hi0 hz1 hz2 h3 h4 hcb HTA HTG HTO HTT HPN HPk HSN
          obtain ⟨wb, hwb⟩ : ∃ wb, wb = wr.alloc (.cells #[.int .i64 c.kind, .string c.path, .string c.dst, .slice a3 c.text.length c3, .slice a4 c.patch.length c4] 49) := ⟨_, rfl⟩
          obtain ⟨hB1, hsb, hq1⟩ := boxed (vs := [.int .i64 c.kind, .string c.path, .string c.dst, .slice a3 c.text.length c3, .slice a4 c.patch.length c4]) hwb
          have q0 := hq1 0 _ rfl
          have q1 := hq1 1 _ rfl
          have q2 := hq1 2 _ rfl
          have q3 := hq1 3 _ rfl
          have q4 := hq1 4 _ rfl
          have hbb := hbr.trans (hB1.mono hszr)
          have hOb := hO.keep (w' := wb) (fun b hb => hB1.block b (by omega))
          have hrb : ∀ b, b < w3.heap.size → b ≠ g → wb.heap[b]? = w3.heap[b]? := fun b h1 h2 => (hB1.block b (by omega)).trans (hrest b h1 h2)
          have hFb := hF.keep (w' := wb) (fun b hb _ => hB1.block b hb.2)
          have hRb : RawsF (fun b => b < w3.heap.size ∧ b ≠ g) wb rs o := hR.at (fun b hb _ => ⟨hrb b hb.1 hb.2, hb⟩)
          have hsb2 : w3.heap.size ≤ wb.heap.size := by omega
          have r0 := q0
          have r2 := q2
          have r1 := q1
          have r3 := q3
          obtain ⟨kd, hkd⟩ : ∃ kd, kd = c.kind := ⟨_, rfl⟩
          have HWB2 : Hid (wb = wr.alloc (.cells #[.int .i64 kd, .string c.path, .string c.dst, .slice a3 c.text.length c3, .slice a4 c.patch.length c4] 49)) := by show _ = _; rw [hkd]; exact hwb
          have HSB := Lib.hid hsb
          rw [hwb, ← hkd] at q0 q1 q2 q3 q4
          rw [← hkd] at r0 e0 hi0 HTA HTG HTO HTT
          have HKD := Lib.hid hkd
          clear hwb hsb hq1 hc hkd hF
          by_cases k1 : kd = 1
          · have j1 := beq_t k1
            have HA2 := Lib.hid (HTA.out k1)
            have HTK := Lib.hid (taken_add (t := t) (HKD.out.symm.trans k1))
            clear k1
            go_wp2_with (at_builtin; rw [← HWB2.out]; (refine wpList_app_leafS slz_file.slt.raw rfl (.tmp 37) (.tmp 43) rfl rfl (hFb.alloc _) rfl rfl (lit_raw (heap_new_at HSB.out.symm) rfl (one_cells2 _ _ _ _) (by decide)) (by simp; omega) (by unfold maxLen; simp; omega) ?_); intro a5 c5 w5 hG5)
            have hN5 : Below w3.heap.size wb w5 := ((Below.refl w3.heap.size wb).alloc hsb2 _).trans (hG5.below w3.heap.size (by simp; omega) (fun b hb _ => hb.1))
            go_roundw
            case rel =>
              refine ⟨⟨k + 1, rs, us ++ [(⟨[.string c.path, .slice a3 c.text.length c3], rfl, one_cells2 _ _ _ _⟩ : Raw File)], o, by omega, by go_num, hOb.keep (fun b hb => hN5.block b hb), hR, ?_, ?_, HA2.out, HPS.out, HS, ho8⟩, hbb.trans (hN5.mono hsW), by have := hN5.size; omega, fun b h1 h2 => (hN5.block b h1).trans (hrb b h1 h2)⟩
              · have hF5 := hG5.fs.mono (T := fun b => w3.heap.size ≤ b ∧ b < w5.heap.size) (fun b h hl => ⟨(by rcases h with h | h; exact h.1; simp at h; omega), hl⟩)
                simpa [hul] using hF5
              · rw [HSN.out, HTK.out]
                exact All2.snoc hU (rd_file_mk (f := ⟨c.path, c.text⟩) hz1 (h3.frame (fun b hb _ => ⟨hW.block b hb, by omega, by omega⟩)))
            case measure => simp [intOf] <;> omega
          · have j1 := beq_f k1
            go_wp2_with fail
            rw [← HWB2.out]
            refine (indexFile_is _ o c.path wr.heap.size _ (hOb.read hRb) r1 (by omega)).mono ?_
            rintro e w5 ⟨hcase, hb5⟩
            have hs5 := hb5.size
            have hwr5 : wr.heap.size ≤ w5.heap.size := by have := HSB.out; omega
            have hbb5 := hbb.trans (hb5.mono hbb.size)
            have r0 := keepc r0 hb5
            have r3 := keepc r3 hb5
            have hO5 := hOb.keep (w' := w5) (fun b hb => hb5.block b (by omega))
            have hr5 : ∀ b, b < w3.heap.size → b ≠ g → w5.heap[b]? = w3.heap[b]? := fun b h1 h2 => (hb5.block b (by omega)).trans (hrb b h1 h2)
            have hF5 := (hFb.keep (w' := w5) (fun b hb hl => hb5.block b hl))
            clear q0 q1 q2 q3 q4 HWB2 HSB r1 r2 e0 e1 e2 e3 e4 hOb hRb hrb hFb hbb hB1
            rcases hcase with ⟨j, hj, rfl, hp, hg⟩ | ⟨rfl, hg⟩
            · have hgt := HPk.out.symm.trans hg
              have HX := Lib.hid (fun h2 h3 => HTO.out h2 _ hgt h3)
              have HN := Lib.hid (fun h3 => HTT.out k1 _ hgt h3)
              have HTK := Lib.hid (taken_old (fun h => k1 (HKD.out.trans h)) hgt)
              have hrl := All2.len hR
              have hjr : j < rs.length := by omega
              obtain ⟨aj, cj, hvs, hzf, hsf⟩ := rd_file (All2.at hR j hjr hj)
              have HEF := Lib.hid (erase_filter hj (asc_distW HS.out))
              have HER := Lib.hid (All2.erase j hR)
              obtain ⟨f, hf⟩ : ∃ f, f = o[j] := ⟨_, rfl⟩
              rw [← hf] at hvs hzf hsf hp HX HN HTK HEF
              rcases hO5 with ⟨_, h0⟩ | ⟨hgN, hov, hrow⟩
              · rw [h0] at hjr
                cases hjr
              subst hov
              obtain ⟨x0, x1'⟩ := hrow.file hjr hvs
              have hsf5 : IsSlice (fun b => b < w3.heap.size ∧ b ≠ g) w5 aj cj f.text := hsf.frame (fun b hb _ => ⟨hr5 b hb.1 hb.2, hb⟩)
              have h35 := h3.keep hbb5
              have hp0 : decide ((j : Int) < 0) = false := decide_eq_false (by omega)
              have HPF := Lib.hid hp
              have HTKF : Hid (takenF t c = f) := by show _ = _; rw [HTK.out, ← hp]
              have HRL := Lib.hid hrl
              have hrs8 : rs.length ≤ 8 := by omega
              have HJR := Lib.hid hjr
              have HVS := Lib.hid hvs
              clear HTG HTO HTT HTA hg hgt hf hvs HTK hp hrl hj hO hR
              by_cases k2 : kd = 2
              · have j2 := beq_t k2
                by_cases hd : f.text = c.text
                · have d1 := decide_eq_true hd
                  have HE9 : Hid (kd = 2 → f.text = c.text) := fun _ => hd
                  clear hd k2
                  go_wp2_with fail
                  first
                  | (
                    go_region_held3 (fun w' => w'.cell? ⟨wr.heap.size, 0, none⟩ = some (.int .i64 kd) ∧ w'.cell? ⟨g, j * 2 + 1, none⟩ = some (.slice aj f.text.length cj) ∧ w'.cell? ⟨wr.heap.size, 3, none⟩ = some (.slice a3 c.text.length c3))
                      (first | exact ⟨r0, x1', r3⟩ | go_keep)
                      (first | (go_at_call 23; refine (slicesEqual_is _ _ f.text c.text _ (Rep.drew hsf5.rd) (Rep.drew h35.rd) d1).mono ?_; rintro e wA ⟨rfl, n, rfl⟩)))
                  | fail
                  all_goals
                    obtain ⟨wz, hwz⟩ : ∃ wz, wz = w5.drewN (1 + n) := ⟨_, rfl⟩
                    have hFz : FS (fun b => w3.heap.size ≤ b ∧ b < wr.heap.size) wz [.slice a7 k c7] us := by
                      rw [hwz]
                      refine FS.keep (w := w5) ?_ (fun _ _ _ => rfl)
                      rw [← hul]; exact hF5
                    have hBz : Below w.heap.size w wz := by rw [hwz]; exact below_drewN hbb5 (1 + n)
                    have hsz5 : w5.heap.size ≤ wz.heap.size := by rw [hwz]; exact Nat.le_refl _
                    have hsz6 : wz.heap.size ≤ w5.heap.size := by rw [hwz]; exact Nat.le_refl _
                    have hq5 : w3.heap.size ≤ wz.heap.size := by omega
                    have hq6 : wr.heap.size ≤ wz.heap.size := by omega
                    have hrowz : RowR wz g cap rs := hrow.keep (by rw [hwz]; exact rfl)
                    have hrz : ∀ b, b < w3.heap.size → b ≠ g → wz.heap[b]? = w3.heap[b]? := fun b h1 h2 => by rw [hwz]; exact hr5 b h1 h2
                    obtain ⟨y0, y1⟩ := hrowz.file HJR.out HVS.out
                    rw [← hwz]
                    clear x0 x1' hrow hr5 hF5 hwz hbb5 hb5 hs5
                    go_wp2_with (at_builtin; (refine wpList_app_leafS slz_file.slt.raw rfl (.tmp 66) (.tmp 71) rfl rfl (FS.alloc hFz _) rfl rfl (lit_raw (heap_alloc_new _ _) rfl (one_cells2 _ _ _ _) (by decide)) (by simp; omega) (by unfold maxLen; simp; omega) ?_); intro a6 c6 w6 hG6)
                    have hN6 := ((Below.refl w3.heap.size wz).alloc (by omega) _).trans (hG6.below w3.heap.size (by simp; omega) (fun b hb _ => hb.1))
                    have hs6 := hN6.size
                    have hB6 := hBz.trans (hN6.mono hsW)
                    refine (delete_row g cap j rs _ (hrowz.keep (hN6.block g hgN)) HJR.out (by omega)).mono ?_
                    rintro e w7 ⟨rfl, hrow7, hof7, hB7⟩
                    have hs7 := hB7.size
                    go_wp2
                    go_roundw
                    case rel =>
                      refine ⟨⟨k + 1, rs.eraseIdx j, us ++ [(⟨[.string f.path, .slice aj f.text.length cj], rfl, one_cells2 _ _ _ _⟩ : Raw File)], o.filter (fun g => !decide (g.path = c.path)), by omega, by go_num, .inr ⟨hgN, by rw [List.length_eraseIdx_of_lt HJR.out], hrow7⟩, ?_, ?_, ?_, HN.out HE9.out, HPN.out, asc_without HS.out _, Nat.le_trans (List.length_filter_le _ _) ho8⟩, hB6.trans (hB7.mono hgW), by omega, fun b h1 h2 => ((hof7 b h2).trans (hN6.block b h1)).trans (hrz b h1 h2)⟩
                      · have := HER.out
                        rw [HEF.out, HPF.out] at this
                        exact this
                      · have hF6 := (hG6.fs.keep (w' := w7) (fun b hb _ => hof7 b (by rcases hb with h | h; have := h.1; omega; simp at h; omega))).mono (T := fun b => w3.heap.size ≤ b ∧ b < w7.heap.size) (fun b h hl => ⟨(by rcases h with h | h; exact h.1; simp at h; omega), hl⟩)
                        simpa [hul] using hF6
                      · rw [HSN.out, HTKF.out]
                        exact All2.snoc hU (rd_file_mk hzf hsf)
                    case measure => simp [intOf] <;> omega
                · have d1 := decide_eq_false hd
                  have HNO := Lib.hid (HX.out k2 hd)
                  clear hd k2
                  go_wp2_with fail
                  first
                  | (
                    go_region_held3 (fun w' => w'.cell? ⟨wr.heap.size, 0, none⟩ = some (.int .i64 kd) ∧ w'.cell? ⟨g, j * 2 + 1, none⟩ = some (.slice aj f.text.length cj) ∧ w'.cell? ⟨wr.heap.size, 3, none⟩ = some (.slice a3 c.text.length c3))
                      (first | exact ⟨r0, x1', r3⟩ | go_keep)
                      (first | (go_at_call 23; refine (slicesEqual_is _ _ f.text c.text _ (Rep.drew hsf5.rd) (Rep.drew h35.rd) d1).mono ?_; rintro e wA ⟨rfl, n, rfl⟩)))
                  | fail
                  all_goals
                    have HR := Lib.hid (changesDo_take HBT.out HBL.out (HMM.out.trans HNO.out))
                    go_wp2
                    go_ret2
                    exact ⟨.slice none 0 0, by rw [HR.out]; rfl, by rw [HR.out]; exact Rep.lt (rd_none0 _), below_drewN hbb5 (1 + n)⟩
              · have j2 := beq_f k2
                have HE9 : Hid (kd = 2 → f.text = c.text) := fun h => absurd h k2
                clear k2
                go_wp2_with fail
                refine wp_region_held_drew (S := fun w' => w'.cell? ⟨wr.heap.size, 0, none⟩ = some (.int .i64 kd)) (by kernel_rfl) (r0) (fun hHeld => ?_)
                refine wpAnyH_take (i := 0) (v := ?_) rfl (by kernel_rfl) (by kernel_rfl) (by kernel_rfl) (fun _ _ _ h => h) (Or.inl ⟨by kernel_rfl, ?_⟩) hHeld ?_
                rotate_left
                · intro w hSw; (try dsimp only at hSw); go_simp; with_reducible rfl
                try simp only [Act.put, List.getElem_toArray, List.getElem_cons_zero, List.setIfInBounds_toArray, List.set_cons_zero, List.set_cons_succ]
                refine wpAnyH_take (i := 1) (v := ?_) rfl (by kernel_rfl) (by kernel_rfl) (by kernel_rfl) (fun _ _ _ h => h) (Or.inl ⟨by kernel_rfl, ?_⟩) hHeld ?_
                rotate_left
                · intro w hSw; (try dsimp only at hSw); go_simp; with_reducible rfl
                try simp only [Act.put, List.getElem_toArray, List.getElem_cons_zero, List.getElem_cons_succ, List.setIfInBounds_toArray, List.set_cons_zero, List.set_cons_succ]
                refine wpAnyH_take (i := 2) (v := ?_) rfl (by kernel_rfl) (by kernel_rfl) (by kernel_rfl) (fun _ _ _ h => h) (Or.inl ⟨by kernel_rfl, ?_⟩) hHeld ?_
                rotate_left
                · intro w hSw; (try dsimp only at hSw); go_simp; with_reducible rfl
                try simp only [Act.put, List.getElem_toArray, List.getElem_cons_zero, List.getElem_cons_succ, List.setIfInBounds_toArray, List.set_cons_zero, List.set_cons_succ]
                refine wpAnyH_take (i := 3) (v := ?_) rfl (by kernel_rfl) (by kernel_rfl) (by kernel_rfl) (fun _ _ _ h => h) (Or.inl ⟨by kernel_rfl, ?_⟩) hHeld ?_
                rotate_left
                · intro w hSw; (try dsimp only at hSw); go_simp; with_reducible rfl
                try simp only [Act.put, List.getElem_toArray, List.getElem_cons_zero, List.getElem_cons_succ, List.setIfInBounds_toArray, List.set_cons_zero, List.set_cons_succ]
                refine wpAnyH_take (i := 4) (v := ?_) rfl (by kernel_rfl) (by kernel_rfl) (by kernel_rfl) (fun _ _ _ h => h) (Or.inl ⟨by kernel_rfl, ?_⟩) hHeld ?_
                rotate_left
                · intro w hSw; (try dsimp only at hSw); go_simp; with_reducible rfl
                try simp only [Act.put, List.getElem_toArray, List.getElem_cons_zero, List.getElem_cons_succ, List.setIfInBounds_toArray, List.set_cons_zero, List.set_cons_succ]
                refine wpAnyH_take (i := 5) (v := ?_) rfl (by kernel_rfl) (by kernel_rfl) (by kernel_rfl) (fun _ _ _ h => h) (Or.inl ⟨by kernel_rfl, ?_⟩) hHeld ?_
                rotate_left
                · intro w hSw; (try dsimp only at hSw); go_simp; with_reducible rfl
                try simp only [Act.put, List.getElem_toArray, List.getElem_cons_zero, List.getElem_cons_succ, List.setIfInBounds_toArray, List.set_cons_zero, List.set_cons_succ]
                refine wpAnyH_take (i := 6) (v := ?_) rfl (by kernel_rfl) (by kernel_rfl) (by kernel_rfl) (fun _ _ _ h => h) (Or.inl ⟨by kernel_rfl, ?_⟩) hHeld ?_
                rotate_left
                · intro w hSw; (try dsimp only at hSw); go_simp; with_reducible rfl
                try simp only [Act.put, List.getElem_toArray, List.getElem_cons_zero, List.getElem_cons_succ, List.setIfInBounds_toArray, List.set_cons_zero, List.set_cons_succ]
                refine wpAnyH_take (i := 7) (v := undef) rfl (by kernel_rfl) (by kernel_rfl) (by kernel_rfl) (fun _ _ _ h => h) (Or.inr ⟨by kernel_rfl, rfl⟩) hHeld ?_
                try simp only [Act.put, List.getElem_toArray, List.getElem_cons_zero, List.getElem_cons_succ, List.setIfInBounds_toArray, List.set_cons_zero, List.set_cons_succ]
                refine wpAnyH_take (i := 8) (v := undef) rfl (by kernel_rfl) (by kernel_rfl) (by kernel_rfl) (fun _ _ _ h => h) (Or.inr ⟨by kernel_rfl, rfl⟩) hHeld ?_
                try simp only [Act.put, List.getElem_toArray, List.getElem_cons_zero, List.getElem_cons_succ, List.setIfInBounds_toArray, List.set_cons_zero, List.set_cons_succ]
                refine wpAnyH_take (i := 9) (v := undef) rfl (by kernel_rfl) (by kernel_rfl) (by kernel_rfl) (fun _ _ _ h => h) (Or.inr ⟨by kernel_rfl, rfl⟩) hHeld ?_
                try simp only [Act.put, List.getElem_toArray, List.getElem_cons_zero, List.getElem_cons_succ, List.setIfInBounds_toArray, List.set_cons_zero, List.set_cons_succ]
                refine wpAnyH_take (i := 10) (v := undef) rfl (by kernel_rfl) (by kernel_rfl) (by kernel_rfl) (fun _ _ _ h => h) (Or.inr ⟨by kernel_rfl, rfl⟩) hHeld ?_
                try simp only [Act.put, List.getElem_toArray, List.getElem_cons_zero, List.getElem_cons_succ, List.setIfInBounds_toArray, List.set_cons_zero, List.set_cons_succ]
                refine wpAnyH_take (i := 11) (v := undef) rfl (by kernel_rfl) (by kernel_rfl) (by kernel_rfl) (fun _ _ _ h => h) (Or.inr ⟨by kernel_rfl, rfl⟩) hHeld ?_
                try simp only [Act.put, List.getElem_toArray, List.getElem_cons_zero, List.getElem_cons_succ, List.setIfInBounds_toArray, List.set_cons_zero, List.set_cons_succ]
                refine wpAnyH_take (i := 12) (v := undef) rfl (by kernel_rfl) (by kernel_rfl) (by kernel_rfl) (fun _ _ _ h => h) (Or.inr ⟨by kernel_rfl, rfl⟩) hHeld ?_
                try simp only [Act.put, List.getElem_toArray, List.getElem_cons_zero, List.getElem_cons_succ, List.setIfInBounds_toArray, List.set_cons_zero, List.set_cons_succ]
                refine wpAnyH_take (i := 13) (v := undef) rfl (by kernel_rfl) (by kernel_rfl) (by kernel_rfl) (fun _ _ _ h => h) (Or.inr ⟨by kernel_rfl, rfl⟩) hHeld ?_
                try simp only [Act.put, List.getElem_toArray, List.getElem_cons_zero, List.getElem_cons_succ, List.setIfInBounds_toArray, List.set_cons_zero, List.set_cons_succ]
                refine wpAnyH_take (i := 14) (v := undef) rfl (by kernel_rfl) (by kernel_rfl) (by kernel_rfl) (fun _ _ _ h => h) (Or.inr ⟨by kernel_rfl, rfl⟩) hHeld ?_
                try simp only [Act.put, List.getElem_toArray, List.getElem_cons_zero, List.getElem_cons_succ, List.setIfInBounds_toArray, List.set_cons_zero, List.set_cons_succ]
                refine wpAnyH_take (i := 15) (v := undef) rfl (by kernel_rfl) (by kernel_rfl) (by kernel_rfl) (fun _ _ _ h => h) (Or.inr ⟨by kernel_rfl, rfl⟩) hHeld ?_
                try simp only [Act.put, List.getElem_toArray, List.getElem_cons_zero, List.getElem_cons_succ, List.setIfInBounds_toArray, List.set_cons_zero, List.set_cons_succ]
                refine wpAnyH_take (i := 16) (v := ?_) rfl (by kernel_rfl) (by kernel_rfl) (by kernel_rfl) (fun _ _ _ h => h) (Or.inl ⟨by kernel_rfl, ?_⟩) hHeld ?_
                rotate_left
                · intro w hSw; (try dsimp only at hSw); go_simp; with_reducible rfl
                try simp only [Act.put, List.getElem_toArray, List.getElem_cons_zero, List.getElem_cons_succ, List.setIfInBounds_toArray, List.set_cons_zero, List.set_cons_succ]
                refine wpAnyH_take (i := 17) (v := ?_) rfl (by kernel_rfl) (by kernel_rfl) (by kernel_rfl) (fun _ _ _ h => h) (Or.inl ⟨by kernel_rfl, ?_⟩) hHeld ?_
                rotate_left
                · intro w hSw; (try dsimp only at hSw); go_simp; with_reducible rfl
                try simp only [Act.put, List.getElem_toArray, List.getElem_cons_zero, List.getElem_cons_succ, List.setIfInBounds_toArray, List.set_cons_zero, List.set_cons_succ]
                refine wpAnyH_done (by kernel_rfl) ?_ _
                all_goals
                  obtain ⟨wz, hwz⟩ : ∃ wz, wz = w5.drew := ⟨_, rfl⟩
                  have hFz : FS (fun b => w3.heap.size ≤ b ∧ b < wr.heap.size) wz [.slice a7 k c7] us := by
                    rw [hwz]
                    refine FS.keep (w := w5) ?_ (fun _ _ _ => rfl)
                    rw [← hul]; exact hF5
                  have hBz : Below w.heap.size w wz := by rw [hwz]; exact hbb5.drew
                  have hsz5 : w5.heap.size ≤ wz.heap.size := by rw [hwz]; exact Nat.le_refl _
                  have hsz6 : wz.heap.size ≤ w5.heap.size := by rw [hwz]; exact Nat.le_refl _
                  have hq5 : w3.heap.size ≤ wz.heap.size := by omega
                  have hq6 : wr.heap.size ≤ wz.heap.size := by omega
                  have hrowz : RowR wz g cap rs := hrow.keep (by rw [hwz]; exact rfl)
                  have hrz : ∀ b, b < w3.heap.size → b ≠ g → wz.heap[b]? = w3.heap[b]? := fun b h1 h2 => by rw [hwz]; exact hr5 b h1 h2
                  obtain ⟨y0, y1⟩ := hrowz.file HJR.out HVS.out
                  rw [← hwz]
                  clear x0 x1' hrow hr5 hF5 hwz hbb5 hb5 hs5
                  go_wp2_with (at_builtin; (refine wpList_app_leafS slz_file.slt.raw rfl (.tmp 66) (.tmp 71) rfl rfl (FS.alloc hFz _) rfl rfl (lit_raw (heap_alloc_new _ _) rfl (one_cells2 _ _ _ _) (by decide)) (by simp; omega) (by unfold maxLen; simp; omega) ?_); intro a6 c6 w6 hG6)
                  have hN6 := ((Below.refl w3.heap.size wz).alloc (by omega) _).trans (hG6.below w3.heap.size (by simp; omega) (fun b hb _ => hb.1))
                  have hs6 := hN6.size
                  have hB6 := hBz.trans (hN6.mono hsW)
                  refine (delete_row g cap j rs _ (hrowz.keep (hN6.block g hgN)) HJR.out (by omega)).mono ?_
                  rintro e w7 ⟨rfl, hrow7, hof7, hB7⟩
                  have hs7 := hB7.size
                  go_wp2
                  go_roundw
                  case rel =>
                    refine ⟨⟨k + 1, rs.eraseIdx j, us ++ [(⟨[.string f.path, .slice aj f.text.length cj], rfl, one_cells2 _ _ _ _⟩ : Raw File)], o.filter (fun g => !decide (g.path = c.path)), by omega, by go_num, .inr ⟨hgN, by rw [List.length_eraseIdx_of_lt HJR.out], hrow7⟩, ?_, ?_, ?_, HN.out HE9.out, HPN.out, asc_without HS.out _, Nat.le_trans (List.length_filter_le _ _) ho8⟩, hB6.trans (hB7.mono hgW), by omega, fun b h1 h2 => ((hof7 b h2).trans (hN6.block b h1)).trans (hrz b h1 h2)⟩
                    · have := HER.out
                      rw [HEF.out, HPF.out] at this
                      exact this
                    · have hF6 := (hG6.fs.keep (w' := w7) (fun b hb _ => hof7 b (by rcases hb with h | h; have := h.1; omega; simp at h; omega))).mono (T := fun b => w3.heap.size ≤ b ∧ b < w7.heap.size) (fun b h hl => ⟨(by rcases h with h | h; exact h.1; simp at h; omega), hl⟩)
                      simpa [hul] using hF6
                    · rw [HSN.out, HTKF.out]
                      exact All2.snoc hU (rd_file_mk hzf hsf)
                  case measure => simp [intOf] <;> omega
            · have HN := Lib.hid (HTG.out k1 (HPk.out.symm.trans hg))
              obtain ⟨m, hm⟩ : ∃ m : Int, m = -1 := ⟨_, rfl⟩
              have hm0 : decide (m < 0) = true := decide_eq_true (by omega)
              rw [← hm]
              clear hm
              go_wp2_with fail
              refine wp_region_held_drew (S := fun w' => w'.cell? ⟨wr.heap.size, 0, none⟩ = some (.int .i64 kd)) (by kernel_rfl) (r0) (fun hHeld => ?_)
              refine wpAnyH_take (i := 0) (v := ?_) rfl (by kernel_rfl) (by kernel_rfl) (by kernel_rfl) (fun _ _ _ h => h) (Or.inl ⟨by kernel_rfl, ?_⟩) hHeld ?_
              rotate_left
              · intro w hSw; (try dsimp only at hSw); go_simp; with_reducible rfl
              try simp only [Act.put, List.getElem_toArray, List.getElem_cons_zero, List.setIfInBounds_toArray, List.set_cons_zero, List.set_cons_succ]
              refine wpAnyH_take (i := 1) (v := ?_) rfl (by kernel_rfl) (by kernel_rfl) (by kernel_rfl) (fun _ _ _ h => h) (Or.inl ⟨by kernel_rfl, ?_⟩) hHeld ?_
              rotate_left
              · intro w hSw; (try dsimp only at hSw); go_simp; with_reducible rfl
              try simp only [Act.put, List.getElem_toArray, List.getElem_cons_zero, List.getElem_cons_succ, List.setIfInBounds_toArray, List.set_cons_zero, List.set_cons_succ]
              refine wpAnyH_take (i := 2) (v := ?_) rfl (by kernel_rfl) (by kernel_rfl) (by kernel_rfl) (fun _ _ _ h => h) (Or.inl ⟨by kernel_rfl, ?_⟩) hHeld ?_
              rotate_left
              · intro w hSw; (try dsimp only at hSw); go_simp; with_reducible rfl
              try simp only [Act.put, List.getElem_toArray, List.getElem_cons_zero, List.getElem_cons_succ, List.setIfInBounds_toArray, List.set_cons_zero, List.set_cons_succ]
              refine wpAnyH_take (i := 3) (v := undef) rfl (by kernel_rfl) (by kernel_rfl) (by kernel_rfl) (fun _ _ _ h => h) (Or.inr ⟨by kernel_rfl, rfl⟩) hHeld ?_
              try simp only [Act.put, List.getElem_toArray, List.getElem_cons_zero, List.getElem_cons_succ, List.setIfInBounds_toArray, List.set_cons_zero, List.set_cons_succ]
              refine wpAnyH_take (i := 4) (v := undef) rfl (by kernel_rfl) (by kernel_rfl) (by kernel_rfl) (fun _ _ _ h => h) (Or.inr ⟨by kernel_rfl, rfl⟩) hHeld ?_
              try simp only [Act.put, List.getElem_toArray, List.getElem_cons_zero, List.getElem_cons_succ, List.setIfInBounds_toArray, List.set_cons_zero, List.set_cons_succ]
              refine wpAnyH_take (i := 5) (v := undef) rfl (by kernel_rfl) (by kernel_rfl) (by kernel_rfl) (fun _ _ _ h => h) (Or.inr ⟨by kernel_rfl, rfl⟩) hHeld ?_
              try simp only [Act.put, List.getElem_toArray, List.getElem_cons_zero, List.getElem_cons_succ, List.setIfInBounds_toArray, List.set_cons_zero, List.set_cons_succ]
              refine wpAnyH_take (i := 6) (v := undef) rfl (by kernel_rfl) (by kernel_rfl) (by kernel_rfl) (fun _ _ _ h => h) (Or.inr ⟨by kernel_rfl, rfl⟩) hHeld ?_
              try simp only [Act.put, List.getElem_toArray, List.getElem_cons_zero, List.getElem_cons_succ, List.setIfInBounds_toArray, List.set_cons_zero, List.set_cons_succ]
              refine wpAnyH_take (i := 7) (v := undef) rfl (by kernel_rfl) (by kernel_rfl) (by kernel_rfl) (fun _ _ _ h => h) (Or.inr ⟨by kernel_rfl, rfl⟩) hHeld ?_
              try simp only [Act.put, List.getElem_toArray, List.getElem_cons_zero, List.getElem_cons_succ, List.setIfInBounds_toArray, List.set_cons_zero, List.set_cons_succ]
              refine wpAnyH_take (i := 8) (v := undef) rfl (by kernel_rfl) (by kernel_rfl) (by kernel_rfl) (fun _ _ _ h => h) (Or.inr ⟨by kernel_rfl, rfl⟩) hHeld ?_
              try simp only [Act.put, List.getElem_toArray, List.getElem_cons_zero, List.getElem_cons_succ, List.setIfInBounds_toArray, List.set_cons_zero, List.set_cons_succ]
              refine wpAnyH_take (i := 9) (v := undef) rfl (by kernel_rfl) (by kernel_rfl) (by kernel_rfl) (fun _ _ _ h => h) (Or.inr ⟨by kernel_rfl, rfl⟩) hHeld ?_
              try simp only [Act.put, List.getElem_toArray, List.getElem_cons_zero, List.getElem_cons_succ, List.setIfInBounds_toArray, List.set_cons_zero, List.set_cons_succ]
              refine wpAnyH_take (i := 10) (v := undef) rfl (by kernel_rfl) (by kernel_rfl) (by kernel_rfl) (fun _ _ _ h => h) (Or.inr ⟨by kernel_rfl, rfl⟩) hHeld ?_
              try simp only [Act.put, List.getElem_toArray, List.getElem_cons_zero, List.getElem_cons_succ, List.setIfInBounds_toArray, List.set_cons_zero, List.set_cons_succ]
              refine wpAnyH_take (i := 11) (v := undef) rfl (by kernel_rfl) (by kernel_rfl) (by kernel_rfl) (fun _ _ _ h => h) (Or.inr ⟨by kernel_rfl, rfl⟩) hHeld ?_
              try simp only [Act.put, List.getElem_toArray, List.getElem_cons_zero, List.getElem_cons_succ, List.setIfInBounds_toArray, List.set_cons_zero, List.set_cons_succ]
              refine wpAnyH_take (i := 12) (v := undef) rfl (by kernel_rfl) (by kernel_rfl) (by kernel_rfl) (fun _ _ _ h => h) (Or.inr ⟨by kernel_rfl, rfl⟩) hHeld ?_
              try simp only [Act.put, List.getElem_toArray, List.getElem_cons_zero, List.getElem_cons_succ, List.setIfInBounds_toArray, List.set_cons_zero, List.set_cons_succ]
              refine wpAnyH_take (i := 13) (v := undef) rfl (by kernel_rfl) (by kernel_rfl) (by kernel_rfl) (fun _ _ _ h => h) (Or.inr ⟨by kernel_rfl, rfl⟩) hHeld ?_
              try simp only [Act.put, List.getElem_toArray, List.getElem_cons_zero, List.getElem_cons_succ, List.setIfInBounds_toArray, List.set_cons_zero, List.set_cons_succ]
              refine wpAnyH_take (i := 14) (v := undef) rfl (by kernel_rfl) (by kernel_rfl) (by kernel_rfl) (fun _ _ _ h => h) (Or.inr ⟨by kernel_rfl, rfl⟩) hHeld ?_
              try simp only [Act.put, List.getElem_toArray, List.getElem_cons_zero, List.getElem_cons_succ, List.setIfInBounds_toArray, List.set_cons_zero, List.set_cons_succ]
              refine wpAnyH_take (i := 15) (v := undef) rfl (by kernel_rfl) (by kernel_rfl) (by kernel_rfl) (fun _ _ _ h => h) (Or.inr ⟨by kernel_rfl, rfl⟩) hHeld ?_
              try simp only [Act.put, List.getElem_toArray, List.getElem_cons_zero, List.getElem_cons_succ, List.setIfInBounds_toArray, List.set_cons_zero, List.set_cons_succ]
              refine wpAnyH_take (i := 16) (v := undef) rfl (by kernel_rfl) (by kernel_rfl) (by kernel_rfl) (fun _ _ _ h => h) (Or.inr ⟨by kernel_rfl, rfl⟩) hHeld ?_
              try simp only [Act.put, List.getElem_toArray, List.getElem_cons_zero, List.getElem_cons_succ, List.setIfInBounds_toArray, List.set_cons_zero, List.set_cons_succ]
              refine wpAnyH_take (i := 17) (v := ?_) rfl (by kernel_rfl) (by kernel_rfl) (by kernel_rfl) (fun _ _ _ h => h) (Or.inl ⟨by kernel_rfl, ?_⟩) hHeld ?_
              rotate_left
              · intro w hSw; (try dsimp only at hSw); go_simp; with_reducible rfl
              try simp only [Act.put, List.getElem_toArray, List.getElem_cons_zero, List.getElem_cons_succ, List.setIfInBounds_toArray, List.set_cons_zero, List.set_cons_succ]
              refine wpAnyH_done (by kernel_rfl) ?_ _
              all_goals
                have HR := Lib.hid (changesDo_take HBT.out HBL.out (HMM.out.trans HN.out))
                go_wp2
                go_ret2
                exact ⟨.slice none 0 0, by rw [HR.out]; rfl, by rw [HR.out]; exact Rep.lt (rd_none0 _), hbb5.drew⟩
        · obtain rfl : k = list.length := by omega
          have HO1 : Hid (takeC t list t = some o) := by show _ = _; exact HMM.out.trans (take_end HA.out hlt)
          have HGF : Hid (GoodF ShortS o) := fun f hf => ⟨hSt f (take_sub HO1.out f hf), x2 f (take_sub HO1.out f hf)⟩
          obtain ⟨N, hN⟩ : ∃ N, putC t list o = N := ⟨_, rfl⟩
          have HN1 : Hid (N = putC t (list.drop 0) o) := hN.symm
          have HNN := Lib.hid hN
          have hRw : RawsF (fun b => b < w3.heap.size ∧ b ≠ g) wr rs o := hR.at (fun b hb _ => ⟨hrest b hb.1 hb.2, hb⟩)
          have hOr := Rep.lt (hO.read hRw)
          have hUw : RawsF (fun b => b < wr.heap.size) wr us (list.map (takenF t)) := by
            have := hU.at (T' := fun b => b < wr.heap.size) (w' := wr) (fun b hb _ => ⟨hrest b hb.1 hb.2, by omega⟩)
            rw [List.take_length] at this
            exact this
          have hus1 : us.length ≤ list.length := by omega
          have hus2 : list.length ≤ us.length := by omega
          have hT := (rd_slice_of hF.rd).2
          obtain ⟨w4, hw4⟩ : ∃ w4 : World, w4 = wr := ⟨_, rfl⟩
          subst hw4
          obtain ⟨ao5, co5, hvo5, _⟩ := rd_slice_elim hOr
          subst hvo5
          clear hN hR hRw hO hU hF hrest HA HP hul hlt HN3 hgB hgW
          go_wp2
          go_loopw [6, 81] (fun ov i wr => (∃ (k : Nat) (o' : List File), k ≤ list.length ∧ i = .int .i64 k ∧ rd (fun b => b < wr.heap.size) wr [ov] o' ∧ Hid (N = putC t (list.drop k) o') ∧ Hid (AscF o') ∧ Hid (GoodF ShortS o') ∧ o'.length ≤ 8 + k) ∧ Below w4.heap.size w4 wr) (fun _ i _ => list.length - (intOf i).toNat)
          case atStart => exact ⟨⟨0, o, by omega, rfl, hOr, HN1, HS, HGF, by omega⟩, Below.refl _ _⟩
          case round =>
            obtain ⟨⟨k, o', hk2, rfl, hO, HA, HS, HG, hol⟩, hb4⟩ := hrel
            clear HN1 HGF hOr
            obtain ⟨wq, hwq⟩ : ∃ wq : World, wq = wr := ⟨_, rfl⟩
            subst hwq
            have hsq := hb4.size
            have hBq := hbr.trans (hb4.mono hbr.size)
            obtain ⟨ao, co, hvo, _⟩ := rd_slice_elim hO
            subst hvo
            by_cases hlt2 : k < list.length
            · obtain ⟨g1, off, a3, c3, a4, c4, hag, e0, e1, e2, e3, e4, hi0, hz1, hz2, h3, h4⟩ := hls.change hlt2
              subst hag
              have e0 := keepc e0 hBq
              have e1 := keepc e1 hBq
              have e2 := keepc e2 hBq
              have e3 := keepc e3 hBq
              have e4 := keepc e4 hBq
              have hUk : k < us.length := by omega
              obtain ⟨aj, cj, hvs, hzf, hsf⟩ := rd_file (All2.at hUw k hUk (by simpa using hlt2))
              rw [List.getElem_map] at hvs hzf hsf
              obtain ⟨g7, off7, ha7, f0, f1⟩ := IsSlice.rawfile hT hUk hvs
              subst ha7
              have f0 := keepc f0 hb4
              have f1 := keepc f1 hb4
              have hsf := hsf.keep hb4
              have h4 := h4.keep hBq
              have hcb := l2 list[k] (List.getElem_mem hlt2)
              have hsh := hS list[k] (List.getElem_mem hlt2)
              have H2 := Lib.hid (fun h => put_skip HA.out hlt2 h)
              have HBAD := Lib.hid (fun h1 h2 => put_bad HA.out hlt2 h1 h2)
              have HHELD := Lib.hid (fun h1 (f : File) h2 h3 => put_held HA.out hlt2 h1 (f := f) h2 h3)
              have HIN := Lib.hid (fun h1 (f : File) h2 h3 => put_in HA.out hlt2 h1 (f := f) h2 h3)
              obtain ⟨c, hc⟩ : ∃ c, c = list[k] := ⟨_, rfl⟩
              rw [← hc] at e0 e1 e2 e3 e4 hi0 hz1 hz2 h4 hvs hzf hsf f0 f1 hcb hsh H2 HBAD HHELD HIN
              have htl : (takenF t c).text.length ≤ 10 := taken_len x2 hcb
              have HKIND := Lib.hid (changeB_kind hcb)
              have HMOVE := Lib.hid (fun h => file_move (t := t) (c := c) h)
              have HADD := Lib.hid (fun h => file_add (t := t) (c := c) h)
              have HEDIT := Lib.hid (fun h (x : List ByteArray) hp => file_edit (t := t) (c := c) h (x := x) hp)
              have HEB := Lib.hid (fun h hp => file_edit_bad (t := t) (c := c) h hp)
              rw [taken_path] at f0
              obtain ⟨x, hx⟩ : ∃ x, x = (takenF t c).text := ⟨_, rfl⟩
              rw [← hx] at hsf f1 htl HMOVE HADD HEDIT HEB
              obtain ⟨kd, hkd⟩ : ∃ kd, kd = c.kind := ⟨_, rfl⟩
              rw [← hkd] at e0 hi0 H2 HBAD HHELD HIN HKIND HMOVE HADD HEDIT HEB
              clear hc hx hkd hvs hcb hzf HA h3
              have f0a := cell_alloc f0 (.cells #[.int .i64 kd, .string c.path, .string c.dst, .slice a3 c.text.length c3, .slice a4 c.patch.length c4] 49)
              have f1a := cell_alloc f1 (.cells #[.int .i64 kd, .string c.path, .string c.dst, .slice a3 c.text.length c3, .slice a4 c.patch.length c4] 49)
              by_cases k2 : kd = 2
              · have j2 := beq_t k2
                have H2' := Lib.hid (H2.out k2)
                clear k2
                go_wp2
                go_roundw
                case rel => exact ⟨⟨k + 1, o', by omega, by go_num, Rep.lt (Rep.alloc (Rep.alloc hO _) _), H2'.out, HS, HG, by omega⟩, (hb4.alloc (by omega) _).alloc (by simp <;> omega) _⟩
                case measure => simp [intOf] <;> omega
              have j2 := beq_f k2
              by_cases k4 : kd = 4
              · have j4 := beq_t k4
                have K4 := Lib.hid k4
                clear k4
                go_wp2_with fail
                have hsq9 := Nat.le_refl wq.heap.size
                have HFC := Lib.hid (HMOVE.out K4.out)
                refine (implPut _ o' c.dst _ x _ (Rep.below hO (Nat.le_refl _) (((Below.refl wq.heap.size wq).alloc (Nat.le_refl _) _).alloc (by simp) _)) HS.out (by omega) (fun g hg => (HG.out g hg).2) hz2 (Rep.below hsf.rd hsq9 (((Below.refl wq.heap.size wq).alloc (Nat.le_refl _) _).alloc (by simp) _)) (by omega)).mono ?_
                rintro e w9 ⟨v9, rfl, hF9, hb9⟩
                have hq9 : Below wq.heap.size wq w9 := Below.trans (((Below.refl wq.heap.size wq).alloc (Nat.le_refl _) _).alloc (by simp) _) (hb9.mono (by simp <;> omega))
                have hB9 := hb4.trans (hq9.mono hsq)
                obtain ⟨fr, hfr⟩ : ∃ fr, fr = decide ((setT o' ⟨c.dst, x⟩).length = o'.length + 1) := ⟨_, rfl⟩
                rw [← hfr]
                rw [put_free HS.out] at hfr
                have hF9 := Rep.lt hF9.rd
                obtain ⟨an, cn, hvn, _⟩ := rd_slice_elim hF9
                subst hvn
                clear hb9 hq9
                cases fr with
                | false =>
                  have HR := Lib.hid (changesDo_put HBT.out HBL.out HO1.out (HNN.out.trans (HHELD.out k2 ⟨c.dst, x⟩ HFC.out (fun hn => by rw [hn] at hfr; cases hfr))))
                  clear hfr
                  go_wp2
                  go_ret2
                  exact ⟨.slice none 0 0, by rw [HR.out]; rfl, by rw [HR.out]; exact Rep.lt (rd_none0 _), hbr.trans (hB9.mono hbr.size)⟩
                | true =>
                  have H9 := Lib.hid (HIN.out k2 ⟨c.dst, x⟩ HFC.out (by cases hg : getT o' c.dst with | none => rfl | some _ => rw [hg] at hfr; cases hfr))
                  have HL9 := setT_len o' ⟨c.dst, x⟩
                  clear hfr
                  go_wp2
                  go_roundw
                  case rel => exact ⟨⟨k + 1, setT o' ⟨c.dst, x⟩, by omega, by go_num, hF9, H9.out, asc_set HS.out _, good_set HS.out HG.out hsh.2 (by omega), by omega⟩, hB9⟩
                  case measure => simp [intOf] <;> omega
              have j4 := beq_f k4
              by_cases k3 : kd = 3
              · have j3 := beq_t k3
                have K3 := Lib.hid k3
                clear k3
                obtain ⟨y, cc, hy⟩ : ∃ y cc, pDo x c.patch = (y, cc) := ⟨_, _, rfl⟩
                have hpt := fun h => text_len10 (pDo_text (t := x) (d := c.patch) h).2.2
                rw [hy] at hpt
                have HY := Lib.hid hy
                obtain ⟨wb, hwb⟩ : ∃ wb, wb = wq.alloc (.cells #[.int .i64 kd, .string c.path, .string c.dst, .slice a3 c.text.length c3, .slice a4 c.patch.length c4] 49) := ⟨_, rfl⟩
                obtain ⟨wc, hwc⟩ : ∃ wc, wc = wb.alloc (.cells #[.string c.path, .slice aj x.length cj] 36) := ⟨_, rfl⟩
                have hbx : wc.heap[wq.heap.size + 1]? = some (.cells #[.string c.path, .slice aj x.length cj] 36 (0, 0)) := by rw [hwc, hwb]; exact heap_new_at (by simp)
                have hBc : Below wq.heap.size wq wc := by rw [hwc, hwb]; exact ((Below.refl wq.heap.size wq).alloc (Nat.le_refl _) _).alloc (by simp) _
                have hlc : wq.heap.size + 1 < wc.heap.size := (Array.getElem?_eq_some_iff.1 hbx).1
                have HWB := Lib.hid hwb
                have HWC := Lib.hid hwc
                clear hwb hwc hy
                go_wp2_with fail
                rw [← HWB.out, ← HWC.out]
                refine (implPatchDo _ x _ c.patch _ (Rep.below hsf.rd (Nat.le_refl _) hBc) (Rep.below h4.rd (Nat.le_refl _) hBc)).mono ?_
                rintro e w8 ⟨v8, he8, hF8, hb8⟩
                rw [HY.out] at he8 hF8
                subst he8
                have hB8 := hBc.trans (hb8.mono hBc.size)
                have hB48 := hb4.trans (hB8.mono hsq)
                have hbx := (hb8.block _ hlc).trans hbx
                have hs8 := hb8.size
                have x0 := (cell_of_row w8 (wq.heap.size + 1) 0 _ _ (0, 0) hbx)
                have x1 := (cell_of_row w8 (wq.heap.size + 1) 1 _ _ (0, 0) hbx)
                have z0 := frozen_of_row w8 (wq.heap.size + 1) 0 _ _ hbx
                have z1 := frozen_of_row w8 (wq.heap.size + 1) 1 _ _ hbx
                simp at x0 x1
                obtain ⟨a8, c8, hv8, _⟩ := hF8.shape
                subst hv8
                have hF8 := hF8.rd
                clear hb8 hbx e0 e1 e2 e3 e4 f0 f1 f0a f1a h4 hsf
                cases cc with
                | false =>
                  have HR := Lib.hid (changesDo_put HBT.out HBL.out HO1.out (HNN.out.trans (HBAD.out k2 (HEB.out K3.out (by rw [HY.out])))))
                  go_wp2
                  go_ret2
                  exact ⟨.slice none 0 0, by rw [HR.out]; rfl, by rw [HR.out]; exact Rep.lt (rd_none0 _), hbr.trans (hB48.mono hbr.size)⟩
                | true =>
                  have hyl := hpt rfl
                  go_wp2_with fail
                  skip
                  have HFC := Lib.hid (HEDIT.out K3.out y HY.out)
                  refine (implPut _ o' c.path _ y _ (Rep.below hO (Nat.le_refl _) (hB8.setCell (p := ⟨wq.heap.size + 1, 1, none⟩) (by simp) _)) HS.out (by omega) (fun g hg => (HG.out g hg).2) hz1 (Rep.setCell hF8 (a := ⟨wq.heap.size + 1, 1, none⟩) (by simp; omega)) (by omega)).mono ?_
                  rintro e w9 ⟨v9, rfl, hF9, hb9⟩
                  have hq9 : Below wq.heap.size wq w9 := Below.trans (hB8.setCell (p := ⟨wq.heap.size + 1, 1, none⟩) (by simp) _) (hb9.mono (by simp <;> omega))
                  have hB9 := hb4.trans (hq9.mono hsq)
                  obtain ⟨fr, hfr⟩ : ∃ fr, fr = decide ((setT o' ⟨c.path, y⟩).length = o'.length + 1) := ⟨_, rfl⟩
                  rw [← hfr]
                  rw [put_free HS.out] at hfr
                  have hF9 := Rep.lt hF9.rd
                  obtain ⟨an, cn, hvn, _⟩ := rd_slice_elim hF9
                  subst hvn
                  clear hb9 hq9
                  cases fr with
                  | false =>
                    have HR := Lib.hid (changesDo_put HBT.out HBL.out HO1.out (HNN.out.trans (HHELD.out k2 ⟨c.path, y⟩ HFC.out (fun hn => by rw [hn] at hfr; cases hfr))))
                    clear hfr
                    go_wp2
                    go_ret2
                    exact ⟨.slice none 0 0, by rw [HR.out]; rfl, by rw [HR.out]; exact Rep.lt (rd_none0 _), hbr.trans (hB9.mono hbr.size)⟩
                  | true =>
                    have H9 := Lib.hid (HIN.out k2 ⟨c.path, y⟩ HFC.out (by cases hg : getT o' c.path with | none => rfl | some _ => rw [hg] at hfr; cases hfr))
                    have HL9 := setT_len o' ⟨c.path, y⟩
                    clear hfr
                    go_wp2
                    go_roundw
                    case rel => exact ⟨⟨k + 1, setT o' ⟨c.path, y⟩, by omega, by go_num, hF9, H9.out, asc_set HS.out _, good_set HS.out HG.out hsh.1 (by omega), by omega⟩, hB9⟩
                    case measure => simp [intOf] <;> omega
              have j3 := beq_f k3
              have HK1 : Hid (kd = 1) := by rcases HKIND.out with h | h | h | h <;> first | exact h | contradiction
              go_wp2_with fail
              have hsq9 := Nat.le_refl wq.heap.size
              have HFC := Lib.hid (HADD.out HK1.out)
              refine (implPut _ o' c.path _ x _ (Rep.below hO (Nat.le_refl _) (((Below.refl wq.heap.size wq).alloc (Nat.le_refl _) _).alloc (by simp) _)) HS.out (by omega) (fun g hg => (HG.out g hg).2) hz1 (Rep.below hsf.rd hsq9 (((Below.refl wq.heap.size wq).alloc (Nat.le_refl _) _).alloc (by simp) _)) (by omega)).mono ?_
              rintro e w9 ⟨v9, rfl, hF9, hb9⟩
              have hq9 : Below wq.heap.size wq w9 := Below.trans (((Below.refl wq.heap.size wq).alloc (Nat.le_refl _) _).alloc (by simp) _) (hb9.mono (by simp <;> omega))
              have hB9 := hb4.trans (hq9.mono hsq)
              obtain ⟨fr, hfr⟩ : ∃ fr, fr = decide ((setT o' ⟨c.path, x⟩).length = o'.length + 1) := ⟨_, rfl⟩
              rw [← hfr]
              rw [put_free HS.out] at hfr
              have hF9 := Rep.lt hF9.rd
              obtain ⟨an, cn, hvn, _⟩ := rd_slice_elim hF9
              subst hvn
              clear hb9 hq9
              cases fr with
              | false =>
                have HR := Lib.hid (changesDo_put HBT.out HBL.out HO1.out (HNN.out.trans (HHELD.out k2 ⟨c.path, x⟩ HFC.out (fun hn => by rw [hn] at hfr; cases hfr))))
                clear hfr
                go_wp2
                go_ret2
                exact ⟨.slice none 0 0, by rw [HR.out]; rfl, by rw [HR.out]; exact Rep.lt (rd_none0 _), hbr.trans (hB9.mono hbr.size)⟩
              | true =>
                have H9 := Lib.hid (HIN.out k2 ⟨c.path, x⟩ HFC.out (by cases hg : getT o' c.path with | none => rfl | some _ => rw [hg] at hfr; cases hfr))
                have HL9 := setT_len o' ⟨c.path, x⟩
                clear hfr
                go_wp2
                go_roundw
                case rel => exact ⟨⟨k + 1, setT o' ⟨c.path, x⟩, by omega, by go_num, hF9, H9.out, asc_set HS.out _, good_set HS.out HG.out hsh.1 (by omega), by omega⟩, hB9⟩
                case measure => simp [intOf] <;> omega
            · have HE := Lib.hid (changesDo_end HBT.out HBL.out HO1.out (HNN.out.trans (put_end HA.out hlt2)))
              have hMq := hM.keep hBq
              cases htx : treeB o' with
              | false =>
                have HZ : Hid (changesDo t list = ([], false)) := by show _ = _; rw [HE.out, if_neg (by rw [htx]; simp)]
                go_wp2_with fail
                refine (treeOk_is _ o' _ hO (fun f hf => (HG.out f hf).1) hMq htx).mono ?_
                rintro e w9 ⟨rfl, hb9⟩
                go_wp2
                go_ret2
                exact ⟨.slice none 0 0, by rw [HZ.out]; rfl, by rw [HZ.out]; exact Rep.lt (rd_none0 _), hBq.trans (hb9.mono hBq.size)⟩
              | true =>
                have HZ : Hid (changesDo t list = (o', true)) := by show _ = _; rw [HE.out, if_pos htx]
                go_wp2_with fail
                refine (treeOk_is _ o' _ hO (fun f hf => (HG.out f hf).1) hMq htx).mono ?_
                rintro e w9 ⟨rfl, hb9⟩
                have hO9 := Rep.lt (Rep.keep hO hb9)
                go_wp2
                go_ret2
                exact ⟨_, by rw [HZ.out]; rfl, by rw [HZ.out]; exact hO9, hBq.trans (hb9.mono hBq.size)⟩
end Go.Proofs.YthddcfbjgcbioaaGreatDoor
