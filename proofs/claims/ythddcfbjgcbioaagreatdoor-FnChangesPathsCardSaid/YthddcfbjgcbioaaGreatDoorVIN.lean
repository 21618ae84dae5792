/-
  A value put into the midst of an own slice: what copies and appends of cells give. No program is in sight here. / Walks: a file put into the midst of an own slice of files (the library's own text). / Walks: a file put into a tree, as the program does it.
-/
import Derived.Test.YthddcfbjgcbioaaGreatDoorVB
import Derived.Laws.CopyRow
import Derived.Lib.AppendZerosOnto
import Derived.Test.YthddcfbjgcbioaaGreatDoorVL
import Derived.Test.YthddcfbjgcbioaaGreatDoorVC
import Derived.Deep.RegionHeld3
import Derived.Lib.Overlaps
import Derived.Laws.CopyOwn
import Derived.Test.YthddcfbjgcbioaaGreatDoorWCTree
import Derived.Test.YthddcfbjgcbioaaGreatDoorWCopy
import Derived.Test.YthddcfbjgcbioaaGreatDoorVPB
set_option linter.unusedVariables false
namespace Go.Vc
open Go.RowKit
open Rep (rd)
open Own (own)
/-- copy between slices of elements of z cells -/
theorem run_copy_rowZ {P : Program} (w : World) (dT sT ty elem : TypeId) (g o dLen dCap : Nat) (a : Addr) (sLen sCap : Nat) (cur : Array Value) (t : TypeId) (cs : List Value) (z : Nat)
    (hu : P.underlying dT = some (.slice elem)) (hs : (P.info? elem).map (·.size) = some z)
    (hg : w.heap[g]? = some (.cells cur t (0, 0))) (hn : cs.length = Nat.min sLen dLen * z)
    (hsrc : ∀ j v, cs[j]? = some v → w.cell? (a.add j) = some v) (hfit : o + cs.length ≤ cur.size) (h1 : ∀ v ∈ cs, v.oneCell' = true) :
    (Builtin.copy_ #[dT, sT] ty #[.slice (some ⟨g, o, none⟩) dLen dCap, .slice (some a) sLen sCap]).run P w =
      .ok (goInt (Nat.min sLen dLen)) (w.setRow g (cur.toList.take o ++ cs ++ cur.toList.drop (o + cs.length)).toArray) := by
  have hl := run_loadCells_list (P := P) w a cs hsrc
  have hst := run_storeCells_at P g o t cs 0 cur w hg (by simpa using hfit) h1
  cases hq : P.info? elem with
  | none => simp [hq] at hs
  | some i =>
    have hi : i.size = z := by simpa [hq] using hs
    simp [Builtin.copy_, run_underlying hu, Builtin.lenOf, Builtin.firstCells, sizeOf, typeInfo, hq, hi, ← hn, hl, hst]
/-- the cells of a list of elements, one put in -/
theorem ownAll.ins {α : Type} [Own α] {w : World} {G : List Nat} {d : List Value} {y : α} : ∀ {Fs : List (List Nat)} {cs : List (List Value)} {xs : List α} (k : Nat), k ≤ xs.length → ownAll w Fs cs xs → own G w d y → ownAll w (Fs.take k ++ G :: Fs.drop k) (cs.take k ++ d :: cs.drop k) (xs.take k ++ y :: xs.drop k)
  | _, _, _, 0, _, h, k => ⟨k, h⟩
  | F :: Fs, c :: cs, x :: xs, k + 1, hk, h, hy => ⟨h.1, ownAll.ins k (by simpa using hk) h.2 hy⟩
  | [], [], [], k + 1, hk, _, _ => absurd hk (by simp)
  | [], [], _ :: _, _ + 1, _, h, _ => h.elim
  | [], _ :: _, [], _ + 1, _, h, _ => h.elim
  | [], _ :: _, _ :: _, _ + 1, _, h, _ => h.elim
  | _ :: _, [], [], _ + 1, _, h, _ => h.elim
  | _ :: _, [], _ :: _, _ + 1, _, h, _ => h.elim
  | _ :: _, _ :: _, [], _ + 1, _, h, _ => h.elim
theorem flat_take {α : Type} {z : Nat} : ∀ {cs : List (List α)}, (∀ c ∈ cs, c.length = z) → ∀ k, (cs.take k).flatten = cs.flatten.take (k * z)
  | [], _, k => by simp
  | c :: cs, h, 0 => by simp
  | c :: cs, h, k + 1 => by
    have hc := h c (List.mem_cons_self ..)
    rw [List.take_succ_cons, List.flatten_cons, List.flatten_cons, flat_take (fun c hc => h c (List.mem_cons_of_mem _ hc)) k]
    rw [show (k + 1) * z = c.length + k * z by rw [hc, Nat.add_mul]; omega, List.take_length_add_append]
theorem flat_drop {α : Type} {z : Nat} : ∀ {cs : List (List α)}, (∀ c ∈ cs, c.length = z) → ∀ k, (cs.drop k).flatten = cs.flatten.drop (k * z)
  | [], _, k => by simp
  | c :: cs, h, 0 => by simp
  | c :: cs, h, k + 1 => by
    have hc := h c (List.mem_cons_self ..)
    rw [List.drop_succ_cons, List.flatten_cons, flat_drop (fun c hc => h c (List.mem_cons_of_mem _ hc)) k]
    rw [show (k + 1) * z = c.length + k * z by rw [hc, Nat.add_mul]; omega, List.drop_length_add_append]
/-- an own slice's row, seen as cells: what is known of it, and what a row that holds one more is -/
theorem Fresh.cut {α : Type} [Own α] [Tid α] {B m m1 : Nat} {w : World} {g n cap : Nat} {xs : List α} {vs : List Value} {y : α}
    (h : Fresh B m w [.slice (some ⟨g, 0, none⟩) n cap] xs) (hy : Fresh m m1 w vs y) {k : Nat} (hk : k ≤ xs.length) :
    ∃ cur cells, w.heap[g]? = some (.cells cur (Tid.tid α) (0, 0)) ∧ B ≤ g ∧ g < m ∧ cur.size = cap * Rep.sz α ∧ xs.length ≤ cap ∧ cap ≤ maxLen ∧ cells.length = xs.length * Rep.sz α ∧ cur.toList.take (xs.length * Rep.sz α) = cells ∧ (∀ u ∈ cells, u.oneCell' = true) ∧ vs.length = Rep.sz α ∧ (∀ u ∈ vs, u.oneCell' = true) ∧
      (∀ {w' : World} {g' cap' : Nat} {A : Array Value}, w'.heap[g']? = some (.cells A (Tid.tid α) (0, 0)) → A.size = cap' * Rep.sz α → xs.length + 1 ≤ cap' → cap' ≤ maxLen → A.toList.take ((xs.length + 1) * Rep.sz α) = cells.take (k * Rep.sz α) ++ vs ++ cells.drop (k * Rep.sz α) →
        (g' = g ∨ w.heap.size ≤ g') → (∀ b, b < w.heap.size → b ≠ g → w'.heap[b]? = w.heap[b]?) → B ≤ g' → B ≤ m → Fresh B w'.heap.size w' [.slice (some ⟨g', 0, none⟩) (xs.length + 1) cap'] (xs.take k ++ y :: xs.drop k)) := by
  obtain ⟨F, ho, hn, hb⟩ := h
  obtain ⟨G, hoy, hny, hby⟩ := hy
  obtain ⟨v, cs, Fs, hv, hrow, rfl, hall, hz⟩ := ho
  simp at hv
  subst hv
  obtain ⟨h1, h2, h3⟩ := hall.lens
  have hd : vs.length = Rep.sz α := Rep.len (Own.rd_of hoy)
  rcases hrow.2 with ⟨hh, _⟩ | ⟨g', cap', cur, hh, _, hg, hnc, hcm, hcs, htake⟩
  · simp at hh
  · simp only [Value.slice.injEq, Option.some.injEq, Addr.mk.injEq, and_true] at hh
    obtain ⟨rfl, rfl, rfl⟩ := hh
    have hgm := hb g (by simp [Value.ownBlock])
    simp only [Value.ownBlock, Option.toList_some, List.cons_append, List.nil_append] at hn
    obtain ⟨hgF, hnF⟩ := List.nodup_cons.1 hn
    refine ⟨cur, cs.flatten, hg, hgm.1, hgm.2, hcs, hnc, hcm, hrow.1, htake, fun u hu => ?_, hd, fun u hu => Rep.one (Own.rd_of hoy) u hu, ?_⟩
    · obtain ⟨c', hc', hu'⟩ := List.mem_flatten.1 hu
      obtain ⟨i, hi, hci⟩ := List.getElem_of_mem hc'
      obtain ⟨F', c'', hF, hc2, ho⟩ := hall.at i (by omega)
      have : c'' = c' := by rw [List.getElem?_eq_getElem hi] at hc2; simp at hc2; rw [← hc2, hci]
      subst this
      exact Rep.one (Own.rd_of ho) u hu'
    · intro w' g' cap' A hA hAs hn1 hcm' hcells hgg hrest hBg hBm
      have hins := ownAll.ins (w := w) k hk hall hoy
      have hfl : (cs.take k ++ vs :: cs.drop k).flatten = cs.flatten.take (k * Rep.sz α) ++ vs ++ cs.flatten.drop (k * Rep.sz α) := by
        rw [List.flatten_append, List.flatten_cons, flat_take h3, flat_drop h3, List.append_assoc]
      have hperm : ∀ b, b ∈ (Fs.take k ++ G :: Fs.drop k).flatten → b ∈ Fs.flatten ∨ b ∈ G := fun b hbm => by
        rw [List.flatten_append, List.flatten_cons] at hbm
        rcases List.mem_append.1 hbm with h | h
        · obtain ⟨l, hl, hb'⟩ := List.mem_flatten.1 h
          exact .inl (List.mem_flatten.2 ⟨l, List.mem_of_mem_take hl, hb'⟩)
        · rcases List.mem_append.1 h with h | h
          · exact .inr h
          · obtain ⟨l, hl, hb'⟩ := List.mem_flatten.1 h
            exact .inl (List.mem_flatten.2 ⟨l, List.mem_of_mem_drop hl, hb'⟩)
      have hlt : ∀ b, b ∈ (Fs.take k ++ G :: Fs.drop k).flatten → b < w.heap.size := fun b hbm => hins.lt b hbm
      have hng : ∀ b, b ∈ (Fs.take k ++ G :: Fs.drop k).flatten → b ≠ g := fun b hbm e => by
        subst e
        rcases hperm _ hbm with h | h
        · exact hgF h
        · have := hby _ h; omega
      have hlen : (xs.take k ++ y :: xs.drop k).length = xs.length + 1 := by simp; omega
      refine ⟨g' :: (Fs.take k ++ G :: Fs.drop k).flatten, ⟨_, cs.take k ++ vs :: cs.drop k, Fs.take k ++ G :: Fs.drop k, rfl, ⟨?_, .inr ⟨g', cap', A, by rw [hlen], Nat.zero_le _, hA, by rw [hlen]; exact hn1, hcm', hAs, by rw [hlen, hcells, hfl]⟩⟩, by simp [Value.ownBlock], hins.frame fun b hbm => hrest b (hlt b hbm) (hng b hbm), hz⟩, List.nodup_cons.2 ⟨fun hm => ?_, ?_⟩, fun b hbm => ?_⟩
      · rw [hlen, hfl, List.length_append, List.length_append, List.length_take, List.length_drop, hrow.1, hd, Nat.add_mul]
        have : k * Rep.sz α ≤ xs.length * Rep.sz α := Nat.mul_le_mul_right _ hk
        omega
      · rcases hgg with rfl | h
        · exact hng _ hm rfl
        · have := hlt _ hm; omega
      · have e : (Fs.take k ++ G :: Fs.drop k).flatten = (Fs.take k).flatten ++ (G ++ (Fs.drop k).flatten) := by rw [List.flatten_append, List.flatten_cons]
        have e2 : Fs.flatten = (Fs.take k).flatten ++ (Fs.drop k).flatten := by rw [← List.flatten_append, List.take_append_drop]
        rw [e2] at hnF
        obtain ⟨n1, n2, n3⟩ := List.nodup_append.1 hnF
        have hGd : ∀ b, b ∈ Fs.flatten → b ∉ G := fun b hb1 hb2 => by
          have := hby b hb2
          have := (hb b (by simp [Value.ownBlock, hb1])).2
          omega
        rw [e]
        refine List.nodup_append.2 ⟨n1, List.nodup_append.2 ⟨hny, n2, fun a ha b hbb e => ?_⟩, fun a ha b hbb e => ?_⟩
        · subst e
          exact hGd a (by rw [e2]; exact List.mem_append.2 (.inr hbb)) ha
        · subst e
          rcases List.mem_append.1 hbb with h | h
          · exact hGd a (by rw [e2]; exact List.mem_append.2 (.inl ha)) h
          · exact n3 a ha a h rfl
      · have hA' : g' < w'.heap.size := (Array.getElem?_eq_some_iff.1 hA).1
        rcases List.mem_cons.1 hbm with rfl | hbm
        · exact ⟨hBg, hA'⟩
        · have hlb := hlt b hbm
          have hgb : b < w'.heap.size := by
            have hwb := hrest b hlb (hng b hbm)
            rw [Array.getElem?_eq_getElem hlb] at hwb
            exact (Array.getElem?_eq_some_iff.1 hwb).1
          rcases hperm b hbm with h | h
          · exact ⟨(hb b (by simp [Value.ownBlock, h])).1, hgb⟩
          · exact ⟨by have := (hby b h).1; omega, hgb⟩
theorem ins_cells {A1 cells vs : List Value} {k : Nat} (h1 : A1.take k = cells.take k) (hk : k ≤ cells.length) (hA : k + vs.length ≤ A1.length) {rest : List Value} :
    (((A1.take k ++ vs ++ A1.drop (k + vs.length)).take (k + vs.length) ++ cells.drop k ++ rest).take (cells.length + vs.length)) = cells.take k ++ vs ++ cells.drop k := by
  have e1 : (A1.take k ++ vs ++ A1.drop (k + vs.length)).take (k + vs.length) = cells.take k ++ vs := by
    rw [List.take_left' (by simp; omega), h1]
  rw [e1]
  exact List.take_left' (by simp; omega)
theorem ins_cells2 {A1 cells vs : List Value} {k : Nat} (h1 : A1.take k = cells.take k) (hk : k ≤ cells.length) (hA : k + vs.length ≤ A1.length) {rest : List Value} :
    (((A1.take (k + vs.length) ++ cells.drop k ++ rest).take k ++ vs ++ (A1.take (k + vs.length) ++ cells.drop k ++ rest).drop (k + vs.length)).take (cells.length + vs.length)) = cells.take k ++ vs ++ cells.drop k := by
  have e1 : (A1.take (k + vs.length) ++ cells.drop k ++ rest).take k = cells.take k := by
    rw [List.append_assoc, List.take_append_of_le_length (by simp; omega), List.take_take, ← h1]
    congr 1
    omega
  have e2 : (A1.take (k + vs.length) ++ cells.drop k ++ rest).drop (k + vs.length) = cells.drop k ++ rest := by
    rw [List.append_assoc]
    exact List.drop_left' (by simp; omega)
  rw [e1, e2, ← List.append_assoc]
  exact List.take_left' (by simp; omega)
section
variable {P : Program} {ops : Array Oper} {rest : List Oper} {o : Oper} {a : Act} {w : World} {K : Act → World → Prop} {Q : Exit → Act → World → Prop} {E : Prop}
/-- 'copy(d, s)', its run known -/
theorem wpList_copy_is (hgd : o.guard = none) (d s : Operand) (t t' : TypeId) (ho : o.op = .call { callee := .builtin .copy, args := #[d, s], argTypes := #[t, t'] }) {v u : Value} (hd : a.eval d = v) (hs : a.eval s = u) {v' : Value} {w' : World}
    (hr : ∀ ty, (Builtin.copy_ #[t, t'] ty #[v, u]).run P w = .ok v' w') (h : wpList P ops Q rest (a.put o.dst v') w') : wpList P ops Q (o :: rest) a w := by
  refine wpList_plain hgd fun K hK => ?_
  unfold Oper.wp execOp
  simp only [ho, resolve, invoke, builtin, Sem.run_bind, Sem.run_pure, Result.andThen_ok, List.map_toArray, List.map_cons, List.map_nil, hd, hs, hr o.type]
  exact hK _ _ h
theorem step_copy_is (hg : o.guard = none) (d s : Operand) (t t' : TypeId) (ho : o.op = .call { callee := .builtin .copy, args := #[d, s], argTypes := #[t, t'] }) {v u : Value} (hd : a.eval d = v) (hs : a.eval s = u) {v' : Value} {w' : World}
    (hr : ∀ ty, (Builtin.copy_ #[t, t'] ty #[v, u]).run P w = .ok v' w') (hK : K (a.put o.dst v') w') : if Region.wanted o (yielded ops a.tmps) = true then Oper.wp P o a w K Q else E := by
  have hw : Region.wanted o (yielded ops a.tmps) = true := by simp [Region.wanted, hg]
  rw [if_pos hw]
  unfold Oper.wp execOp
  simp only [ho, resolve, invoke, builtin, Sem.run_bind, Sem.run_pure, Result.andThen_ok, List.map_toArray, List.map_cons, List.map_nil, hd, hs, hr o.type]
  exact hK
theorem wpList_append_is (hgd : o.guard = none) (d s : Operand) (t t' : TypeId) (ho : o.op = .call { callee := .builtin .append, args := #[d, s], argTypes := #[t, t'] }) {v u : Value} (hd : a.eval d = v) (hs : a.eval s = u) {v' : Value} {w' : World}
    (hr : ∀ ty, (Builtin.append_ #[t, t'] ty #[v, u]).run P w = .ok v' w') (h : wpList P ops Q rest (a.put o.dst v') w') : wpList P ops Q (o :: rest) a w := by
  refine wpList_plain hgd fun K hK => ?_
  unfold Oper.wp execOp
  simp only [ho, resolve, invoke, builtin, Sem.run_bind, Sem.run_pure, Result.andThen_ok, List.map_toArray, List.map_cons, List.map_nil, hd, hs, hr o.type]
  exact hK _ _ h
end
theorem setRow_size (w : World) (g : Nat) (A : Array Value) : (w.setRow g A).heap.size = w.heap.size := by
  unfold World.setRow
  simp
end Go.Vc
namespace Go.Proofs.YthddcfbjgcbioaaGreatDoor
open Go.RowKit Go.Vc
open Go.Vc.Rep (rd)
open Go.Vc.Own (own)
/-- at the end -/
theorem insert_end {B m m1 : Nat} (v : Value) (xs : List File) (w : World) (h : Fresh B m w [v] xs) (hB : B ≤ w.heap.size) {vb : Nat} {vs : List Value} {te : TypeId} {y : File} (hvb : w.heap[vb]? = some (.cells vs.toArray te (0, 0))) (hy : Fresh m m1 w vs y) (hBm : B ≤ m) (hl : xs.length ≤ 1000) :
    Calls Tryz.prog 52 #[v, .int .i64 xs.length, .slice (some ⟨vb, 0, none⟩) 1 1] w fun e w' => ∃ a' c', e = .returned (.slice a' (xs.length + 1) c') ∧ Fresh B w'.heap.size w' [.slice a' (xs.length + 1) c'] (xs.take xs.length ++ y :: xs.drop xs.length) ∧ Below B w w' := by
  obtain ⟨a, cap, rfl, hs⟩ := h.shape
  have hct := run_cut slz_file.slt a xs.length cap xs.length (Nat.le_refl _)
  clear hs
  go_enter Tryz.func52, Tryz.ntmps52
  go_wp2_with (at_builtin; go_must (refine wpList_app_one slz_file.slt rfl (.tmp 23) (.tmp 24) rfl rfl h hB rfl hvb hy hBm (by omega) (by unfold maxLen; omega) ?_); intro a5 c5 w5 hG5)
  go_ret
  exact ⟨_, _, rfl, by rw [List.take_length, List.drop_length]; exact hG5.fresh, hG5.below⟩
set_option maxHeartbeats 4000000 in
set_option maxRecDepth 100000 in
/-- in the midst, no room -/
theorem insert_grow {B m m1 : Nat} (g cap k : Nat) (xs : List File) (w : World) (h : Fresh B m w [.slice (some ⟨g, 0, none⟩) xs.length cap] xs) (hB : B ≤ w.heap.size) {vb : Nat} {vs : List Value} {te : TypeId} {y : File} (hvb : w.heap[vb]? = some (.cells vs.toArray te (0, 0))) (hy : Fresh m m1 w vs y) (hBm : B ≤ m) (hvm : m ≤ vb) (hl : xs.length ≤ 1000) (hk : k < xs.length) (hc : ¬ xs.length + 1 ≤ cap) :
    Calls Tryz.prog 52 #[.slice (some ⟨g, 0, none⟩) xs.length cap, .int .i64 k, .slice (some ⟨vb, 0, none⟩) 1 1] w fun e w' => ∃ a' c', e = .returned (.slice a' (xs.length + 1) c') ∧ Fresh B w'.heap.size w' [.slice a' (xs.length + 1) c'] (xs.take k ++ y :: xs.drop k) ∧ Below B w w' := by
  obtain ⟨cur, cells, hg, hBg, hgm, hcs, hnc, hcm, hcl, htk, h1c, hvl, h1v, HF⟩ := h.cut hy (k := k) (by omega)
  rw [show Rep.sz File = 2 from rfl] at hcs hcl htk hvl HF
  obtain ⟨i, z, hi, hz0, hsz, hby, hzs⟩ := slz_file.slt.hi
  rw [show Rep.sz File = 2 from rfl] at hsz hzs
  have hgl := (Array.getElem?_eq_some_iff.1 hg).1
  have hcell : ∀ j u, cells[j]? = some u → w.cell? ⟨g, j, none⟩ = some u := fun j u hj => by
    rw [cell_of_row w g j cur _ (0, 0) hg]
    rw [← htk, List.getElem?_take] at hj
    split at hj
    · simpa using hj
    · cases hj
  have hold : (Builtin.firstCells i.size k (.slice (some ⟨g, 0, none⟩) k cap)).run Tryz.prog w.drew = .ok (cells.take (k * 2)).toArray w.drew := by
    rw [hsz]
    refine run_firstCells_some w.drew 2 k ⟨g, 0, none⟩ k cap (cells.take (k * 2)) (by rw [List.length_take]; omega) (fun j v hj => ?_)
    rw [Addr.add_lit, Nat.zero_add]
    rw [List.getElem?_take] at hj
    split at hj
    · exact hcell j v hj
    · cases hj
  obtain ⟨G, hG⟩ : ∃ G, G = grownCap w (xs.length + 1) cap (Tid.tid File) := ⟨_, rfl⟩
  have hGn : xs.length + 1 ≤ G := by rw [hG]; exact grownCap_ge w _ _ _
  have hGm : G ≤ maxLen := by rw [hG]; exact grownCap_le_maxLen w _ _ _ (by unfold maxLen; omega)
  obtain ⟨A1, hA1⟩ : ∃ A1 : Array Value, A1 = (cells.take (k * 2)).toArray ++ Builtin.zeroCells z.cells (xs.length + 1 - k) ++ Builtin.zeroCells z.cells (G - (xs.length + 1)) := ⟨_, rfl⟩
  have hA1s : A1.size = G * 2 := by
    rw [hA1]
    simp only [Array.size_append, List.size_toArray, size_zeroCells, hzs, List.length_take, hcl]
    omega
  have hA1t : A1.toList.take (k * 2) = cells.take (k * 2) := by
    rw [hA1, Array.toList_append, Array.toList_append, List.append_assoc]
    exact List.take_left' (by simp; omega)
  have hs2 : (Tryz.prog.info? (Tid.tid File)).map (·.size) = some 2 := by rw [hi]; simp [hsz]
  have hrz : ∀ ty, (Builtin.append_ #[23, 3] ty #[.slice (some ⟨g, 0, none⟩) k cap, .int .i64 ((xs.length : Int) + 1 - (k : Int))]).run Tryz.prog w = .ok (.slice (some ⟨w.heap.size, 0, none⟩) (xs.length + 1) G) (w.drew.alloc (.cells A1 (Tid.tid File))) := fun ty => by
    have h := Lib.run_append_grow_zeros w 23 3 ty (Tid.tid File) i z .i64 .i64 slz_file.slt.ht Tryz.underlying3 hi hz0 (some ⟨g, 0, none⟩) k cap _ hold (xs.length + 1 - k) (by omega) (by omega) (by omega) (by omega) (by rw [hby]; omega) (by rw [hby, show k + (xs.length + 1 - k) = xs.length + 1 by omega]; exact growslice_fits (by omega) (by omega))
    rw [show k + (xs.length + 1 - k) = xs.length + 1 by omega, ← hG, ← hA1] at h
    rw [show (xs.length : Int) + 1 - (k : Int) = ((xs.length + 1 - k : Nat) : Int) by omega]
    exact h
  obtain ⟨W1, hW1⟩ : ∃ W1, W1 = w.drew.alloc (.cells A1 (Tid.tid File)) := ⟨_, rfl⟩
  have hg1 : W1.heap[w.heap.size]? = some (.cells A1 (Tid.tid File) (0, 0)) := by rw [hW1]; exact heap_alloc_new w.drew _
  have ho1 : ∀ b, b < w.heap.size → W1.heap[b]? = w.heap[b]? := fun b hb => by rw [hW1]; exact Below.heap_alloc w.drew _ b hb
  have hB1 : Below B w W1 := by rw [hW1]; exact (Below.refl B w).drew.alloc hB _
  have hvbl := (Array.getElem?_eq_some_iff.1 hvb).1
  have hvsrc : ∀ j u, vs[j]? = some u → W1.cell? ⟨vb, j, none⟩ = some u := fun j u hj => by
    rw [World.cell?_of_block (w := w) (ho1 vb hvbl), cell_of_row w vb j _ _ (0, 0) hvb]
    simpa using hj
  obtain ⟨A2, hA2⟩ : ∃ A2 : Array Value, A2 = (A1.toList.take (k * 2) ++ vs ++ A1.toList.drop (k * 2 + vs.length)).toArray := ⟨_, rfl⟩
  have hcA : ∀ ty, (Builtin.copy_ #[23, 23] ty #[.slice (some ⟨w.heap.size, k * 2, none⟩) (xs.length + 1 - k) (G - k), .slice (some ⟨vb, 0, none⟩) 1 1]).run Tryz.prog W1 = .ok (goInt (Nat.min 1 (xs.length + 1 - k))) (W1.setRow w.heap.size A2) := fun ty => by
    rw [hA2]
    exact run_copy_rowZ W1 _ _ ty (Tid.tid File) w.heap.size (k * 2) _ _ ⟨vb, 0, none⟩ 1 1 A1 _ vs 2 slz_file.slt.ht hs2 hg1 (by rw [hvl]; show 2 = min 1 (xs.length + 1 - k) * 2; rw [Nat.min_eq_left (by omega)]) (fun j u hj => by rw [Addr.add_lit, Nat.zero_add]; exact hvsrc j u hj) (by rw [hvl, hA1s]; omega) h1v
  obtain ⟨W2, hW2⟩ : ∃ W2, W2 = W1.setRow w.heap.size A2 := ⟨_, rfl⟩
  have hg2 : W2.heap[w.heap.size]? = some (.cells A2 (Tid.tid File) (0, 0)) := by rw [hW2]; exact setRow_heap W1 _ A1 A2 _ _ hg1
  have ho2 : ∀ b, b < w.heap.size → W2.heap[b]? = w.heap[b]? := fun b hb => by rw [hW2, setRow_other _ _ _ _ (by omega)]; exact ho1 b hb
  have hB2 : Below B w W2 := by rw [hW2]; exact below_setRow hB1 hB _
  have hA2s : A2.size = G * 2 := by rw [hA2]; simp only [List.size_toArray, List.length_append, List.length_take, List.length_drop, Array.length_toList, hvl, hA1s]; omega
  have hdl : (cells.drop (k * 2)).length = (xs.length - k) * 2 := by rw [List.length_drop, hcl]; omega
  obtain ⟨A3, hA3⟩ : ∃ A3 : Array Value, A3 = (A2.toList.take ((k + 1) * 2) ++ cells.drop (k * 2) ++ A2.toList.drop ((k + 1) * 2 + (cells.drop (k * 2)).length)).toArray := ⟨_, rfl⟩
  have hcB : ∀ ty, (Builtin.copy_ #[23, 23] ty #[.slice (some ⟨w.heap.size, (k + 1) * 2, none⟩) (xs.length - k) (G - (k + 1)), .slice (some ⟨g, k * 2, none⟩) (xs.length - k) (cap - k)]).run Tryz.prog W2.drew = .ok (goInt (Nat.min (xs.length - k) (xs.length - k))) (W2.drew.setRow w.heap.size A3) := fun ty => by
    rw [hA3]
    exact run_copy_rowZ W2.drew _ _ ty (Tid.tid File) w.heap.size ((k + 1) * 2) _ _ ⟨g, k * 2, none⟩ _ _ A2 _ (cells.drop (k * 2)) 2 slz_file.slt.ht hs2 hg2 (by rw [hdl]; show (xs.length - k) * 2 = min (xs.length - k) (xs.length - k) * 2; rw [Nat.min_self]) (fun j u hj => by
      rw [Addr.add_lit]
      have hj2 : cells[k * 2 + j]? = some u := by rwa [List.getElem?_drop] at hj
      exact (World.cell?_of_block (w := w) (w' := W2.drew) (ho2 g hgl)).trans (hcell _ u hj2)) (by rw [hdl, hA2s]; omega) (fun u hu => h1c u (List.mem_of_mem_drop hu))
  have hA3s : A3.size = G * 2 := by rw [hA3]; simp only [List.size_toArray, List.length_append, List.length_take, List.length_drop, Array.length_toList, hcl, hA2s]; omega
  have hfin : Fresh B (W2.drew.setRow w.heap.size A3).heap.size (W2.drew.setRow w.heap.size A3) [.slice (some ⟨w.heap.size, 0, none⟩) (xs.length + 1) G] (xs.take k ++ y :: xs.drop k) := by
    refine HF (setRow_heap W2.drew _ A2 A3 _ _ hg2) hA3s hGn hGm ?_ (.inr (Nat.le_refl _)) (fun b hb _ => by rw [setRow_other _ _ _ _ (by omega)]; exact ho2 b hb) hB hBm
    have e1 : (k + 1) * 2 = k * 2 + vs.length := by rw [hvl]; omega
    have e2 : (xs.length + 1) * 2 = cells.length + vs.length := by rw [hvl, hcl]; omega
    rw [hA3, e2, hA2]
    simp only [e1]
    exact ins_cells hA1t (by rw [hcl]; omega) (by rw [hvl, Array.length_toList, hA1s]; omega)
  have hBf : Below B w (W2.drew.setRow w.heap.size A3) := below_setRow hB2.drew hB _
  have hcut : ∀ (a : Nat) (n c j : Nat) (hj : j ≤ n) (hne : c ≠ j) (w : World), (Instr.slice 23 (.slice (some ⟨a, 0, none⟩) n c) (some (.int .i64 (j : Int))) none none).run Tryz.prog w = .ok (.slice (some ⟨a, j * 2, none⟩) (n - j) (c - j)) w := fun a n c j hj hne w => by
    rw [run_cut slz_file.slt _ n c j hj]
    unfold cutA
    rw [if_neg hne]
    simp only [Option.map_some, addr_add, Nat.zero_add]
    rfl
  have c1 := hcut g xs.length cap k (by omega) (by omega)
  have c2 := hcut w.heap.size (xs.length + 1) G k (by omega) (by omega)
  have c3 : ∀ w' : World, (Instr.slice 23 (.slice (some ⟨w.heap.size, 0, none⟩) (xs.length + 1) G) (some (.int .i64 ((k : Int) + 1))) none none).run Tryz.prog w' = .ok (.slice (some ⟨w.heap.size, (k + 1) * 2, none⟩) (xs.length - k) (G - (k + 1))) w' := fun w' => by
    have := hcut w.heap.size (xs.length + 1) G (k + 1) (by omega) (by omega) w'
    rwa [show xs.length + 1 - (k + 1) = xs.length - k by omega] at this
  have c0 := run_cut0 slz_file.slt (some ⟨g, 0, none⟩) xs.length cap k (by omega)
  have e1 : IntKind.i64.wrap ((xs.length : Int) + 1) = (xs.length : Int) + 1 := IntWalk.i64_in _ (by omega)
  have e2 : IntKind.i64.wrap ((k : Int) + 1) = (k : Int) + 1 := IntWalk.i64_in _ (by omega)
  have e3 : IntKind.i64.wrap ((xs.length : Int) + 1 - (k : Int)) = (xs.length : Int) + 1 - (k : Int) := IntWalk.i64_in _ (by omega)
  have h9 : ((k : Int) == (xs.length : Int)) = false := by rw [beq_eq_false_iff_ne]; omega
  have h8 : decide ((cap : Int) < (xs.length : Int) + 1) = true := decide_eq_true (by omega)
  have HFF := Lib.hid hfin
  rw [← hW1] at hrz
  rw [← hW2] at hcA
  clear hG hA1 hA2 hA3 hA1s hA2s hA3s hA1t hs2 hW1 hg1 ho1 hB1 hvsrc hW2 hg2 ho2 hB2 hdl hcut hold hcell HF htk hcl hvl hcs hsz hby hzs hi hz0 hfin h1c h1v h hy
  go_enter Tryz.func52, Tryz.ntmps52
  go_wp2_with (first
    | (at_builtin; refine wpList_append_is rfl (.tmp 34) (.tmp 39) 23 3 rfl rfl rfl hrz ?_)
    | (at_builtin; refine wpList_copy_is rfl (.tmp 43) (.tmp 44) 23 23 rfl rfl rfl hcA ?_))
  go_region_law (refine step_copy_is rfl (.tmp 50) (.tmp 53) 23 23 rfl (v := .slice (some ⟨w.heap.size, (k + 1) * 2, none⟩) (xs.length - k) (G - (k + 1))) (u := .slice (some ⟨g, k * 2, none⟩) (xs.length - k) (cap - k)) (by simp [Act.eval, Act.put]) (by simp [Act.eval, Act.put]) hcB ?_)
  all_goals
    go_wp2
    go_ret
    exact ⟨_, _, rfl, HFF.out, hBf⟩
set_option maxHeartbeats 4000000 in
set_option maxRecDepth 100000 in
/-- in the midst, in place -/
theorem insert_room {B m m1 : Nat} (g cap k : Nat) (xs : List File) (w : World) (h : Fresh B m w [.slice (some ⟨g, 0, none⟩) xs.length cap] xs) (hB : B ≤ w.heap.size) {vb : Nat} {vs : List Value} {te : TypeId} {y : File} (hvb : w.heap[vb]? = some (.cells vs.toArray te (0, 0))) (hy : Fresh m m1 w vs y) (hBm : B ≤ m) (hvm : m ≤ vb) (hl : xs.length ≤ 1000) (hk : k < xs.length) (hc : xs.length + 1 ≤ cap) :
    Calls Tryz.prog 52 #[.slice (some ⟨g, 0, none⟩) xs.length cap, .int .i64 k, .slice (some ⟨vb, 0, none⟩) 1 1] w fun e w' => ∃ a' c', e = .returned (.slice a' (xs.length + 1) c') ∧ Fresh B w'.heap.size w' [.slice a' (xs.length + 1) c'] (xs.take k ++ y :: xs.drop k) ∧ Below B w w' := by
  obtain ⟨cur, cells, hg, hBg, hgm, hcs, hnc, hcm, hcl, htk, h1c, hvl, h1v, HF⟩ := h.cut hy (k := k) (by omega)
  rw [show Rep.sz File = 2 from rfl] at hcs hcl htk hvl HF
  obtain ⟨i, z, hi, hz0, hsz, hby, hzs⟩ := slz_file.slt.hi
  rw [show Rep.sz File = 2 from rfl] at hsz hzs
  have hgl := (Array.getElem?_eq_some_iff.1 hg).1
  have hcell : ∀ j u, cells[j]? = some u → w.cell? ⟨g, j, none⟩ = some u := fun j u hj => by
    rw [cell_of_row w g j cur _ (0, 0) hg]
    rw [← htk, List.getElem?_take] at hj
    split at hj
    · simpa using hj
    · cases hj
  have hs2 : (Tryz.prog.info? (Tid.tid File)).map (·.size) = some 2 := by rw [hi]; simp [hsz]
  have hvbl := (Array.getElem?_eq_some_iff.1 hvb).1
  have hcurt : cur.toList.take (k * 2) = cells.take (k * 2) := by
    rw [← htk, List.take_take]
    congr 1
    omega
  have hdl : (cells.drop (k * 2)).length = (xs.length - k) * 2 := by rw [List.length_drop, hcl]; omega
  have hov : (callFunc 70 #[.slice (some ⟨vb, 0, none⟩) 1 1, .slice (some ⟨g, (k + 1) * 2, none⟩) (xs.length - k) (cap - (k + 1))]).run Tryz.prog w = .ok (.value (.bool false)) w := by
    have hsa : w.shape? vb = some (te, vs.length) := by simp [World.shape?, hvb]
    have hsb : w.shape? g = some (Tid.tid File, cur.size) := by simp [World.shape?, hg]
    rw [run_callFunc_extern Tryz.func70 (by kernel_rfl) (by kernel_rfl) (by kernel_rfl) (e := Extern.SlicesOverlaps.overlaps #[23, 23] #[4]) (by kernel_rfl),
      Lib.run_overlaps_apart w 23 4 (Tid.tid File) slz_file.slt.ht 2 (fun w => by simp [sizeOf, typeInfo, hi, hsz]) ⟨vb, 0, none⟩ ⟨g, (k + 1) * 2, none⟩ 1 1 (xs.length - k) (cap - (k + 1)) (by show vb ≠ g; omega) te (Tid.tid File) vs.length cur.size hsa hsb (by rw [hcs]; omega) (frozen_of_row w vb _ _ _ hvb) (frozen_of_row w vb _ _ _ hvb)]
    rfl
  obtain ⟨A2, hA2⟩ : ∃ A2 : Array Value, A2 = (cur.toList.take ((k + 1) * 2) ++ cells.drop (k * 2) ++ cur.toList.drop ((k + 1) * 2 + (cells.drop (k * 2)).length)).toArray := ⟨_, rfl⟩
  have hcA : ∀ ty, (Builtin.copy_ #[23, 23] ty #[.slice (some ⟨g, (k + 1) * 2, none⟩) (xs.length - k) (cap - (k + 1)), .slice (some ⟨g, k * 2, none⟩) (xs.length + 1 - k) (cap - k)]).run Tryz.prog w.drew = .ok (goInt (Nat.min (xs.length + 1 - k) (xs.length - k))) (w.drew.setRow g A2) := fun ty => by
    rw [hA2]
    exact run_copy_rowZ w.drew _ _ ty (Tid.tid File) g ((k + 1) * 2) _ _ ⟨g, k * 2, none⟩ _ _ cur _ (cells.drop (k * 2)) 2 slz_file.slt.ht hs2 hg (by rw [hdl]; show (xs.length - k) * 2 = min (xs.length + 1 - k) (xs.length - k) * 2; rw [Nat.min_eq_right (by omega)]) (fun j u hj => by
      rw [Addr.add_lit]
      have hj2 : cells[k * 2 + j]? = some u := by rwa [List.getElem?_drop] at hj
      exact hcell _ u hj2) (by rw [hdl, hcs]; omega) (fun u hu => h1c u (List.mem_of_mem_drop hu))
  obtain ⟨W2, hW2⟩ : ∃ W2, W2 = w.drew.setRow g A2 := ⟨_, rfl⟩
  have hg2 : W2.heap[g]? = some (.cells A2 (Tid.tid File) (0, 0)) := by rw [hW2]; exact setRow_heap w.drew _ cur A2 _ _ hg
  have ho2 : ∀ b, b ≠ g → W2.heap[b]? = w.heap[b]? := fun b hb => by rw [hW2, setRow_other _ _ _ _ hb]; rfl
  have hB2 : Below B w W2 := by rw [hW2]; exact below_setRow (Below.refl B w).drew hBg _
  have hA2s : A2.size = cap * 2 := by rw [hA2]; simp only [List.size_toArray, List.length_append, List.length_take, List.length_drop, Array.length_toList, hcl, hcs]; omega
  obtain ⟨A3, hA3⟩ : ∃ A3 : Array Value, A3 = (A2.toList.take (k * 2) ++ vs ++ A2.toList.drop (k * 2 + vs.length)).toArray := ⟨_, rfl⟩
  have hcB : ∀ ty, (Builtin.copy_ #[23, 23] ty #[.slice (some ⟨g, k * 2, none⟩) (xs.length + 1 - k) (cap - k), .slice (some ⟨vb, 0, none⟩) 1 1]).run Tryz.prog W2 = .ok (goInt (Nat.min 1 (xs.length + 1 - k))) (W2.setRow g A3) := fun ty => by
    rw [hA3]
    exact run_copy_rowZ W2 _ _ ty (Tid.tid File) g (k * 2) _ _ ⟨vb, 0, none⟩ 1 1 A2 _ vs 2 slz_file.slt.ht hs2 hg2 (by rw [hvl]; show 2 = min 1 (xs.length + 1 - k) * 2; rw [Nat.min_eq_left (by omega)]) (fun j u hj => by
      rw [Addr.add_lit, Nat.zero_add, World.cell?_of_block (w := w) (ho2 vb (by omega)), cell_of_row w vb j _ _ (0, 0) hvb]
      simpa using hj) (by rw [hvl, hA2s]; omega) h1v
  have hA3s : A3.size = cap * 2 := by rw [hA3]; simp only [List.size_toArray, List.length_append, List.length_take, List.length_drop, Array.length_toList, hvl, hA2s]; omega
  have hfin : Fresh B (W2.setRow g A3).heap.size (W2.setRow g A3) [.slice (some ⟨g, 0, none⟩) (xs.length + 1) cap] (xs.take k ++ y :: xs.drop k) := by
    refine HF (setRow_heap W2 _ A2 A3 _ _ hg2) hA3s hc hcm ?_ (.inl rfl) (fun b _ hb => by rw [setRow_other _ _ _ _ hb]; exact ho2 b hb) hBg hBm
    have e1 : (k + 1) * 2 = k * 2 + vs.length := by rw [hvl]; omega
    have e2 : (xs.length + 1) * 2 = cells.length + vs.length := by rw [hvl, hcl]; omega
    rw [hA3, e2, hA2]
    simp only [e1]
    exact ins_cells2 hcurt (by rw [hcl]; omega) (by rw [hvl, Array.length_toList, hcs]; omega)
  have hBf : Below B w (W2.setRow g A3) := below_setRow hB2 hBg _
  have hcut : ∀ (a : Nat) (n c j : Nat) (hj : j ≤ n) (hne : c ≠ j) (w : World), (Instr.slice 23 (.slice (some ⟨a, 0, none⟩) n c) (some (.int .i64 (j : Int))) none none).run Tryz.prog w = .ok (.slice (some ⟨a, j * 2, none⟩) (n - j) (c - j)) w := fun a n c j hj hne w => by
    rw [run_cut slz_file.slt _ n c j hj]
    unfold cutA
    rw [if_neg hne]
    simp only [Option.map_some, addr_add, Nat.zero_add]
    rfl
  have c1 := hcut g xs.length cap k (by omega) (by omega)
  have c2 := hcut g (xs.length + 1) cap k (by omega) (by omega)
  have c3 : ∀ w' : World, (Instr.slice 23 (.slice (some ⟨g, 0, none⟩) (xs.length + 1) cap) (some (.int .i64 ((k : Int) + 1))) none none).run Tryz.prog w' = .ok (.slice (some ⟨g, (k + 1) * 2, none⟩) (xs.length - k) (cap - (k + 1))) w' := fun w' => by
    have := hcut g (xs.length + 1) cap (k + 1) (by omega) (by omega) w'
    rwa [show xs.length + 1 - (k + 1) = xs.length - k by omega] at this
  have c0 : ∀ w' : World, (Instr.slice 23 (.slice (some ⟨g, 0, none⟩) xs.length cap) none (some (.int .i64 ((xs.length : Int) + 1))) none).run Tryz.prog w' = .ok (.slice (some ⟨g, 0, none⟩) (xs.length + 1) cap) w' := run_cut0 slz_file.slt (some ⟨g, 0, none⟩) xs.length cap (xs.length + 1) hc
  have e1 : IntKind.i64.wrap ((xs.length : Int) + 1) = (xs.length : Int) + 1 := IntWalk.i64_in _ (by omega)
  have e2 : IntKind.i64.wrap ((k : Int) + 1) = (k : Int) + 1 := IntWalk.i64_in _ (by omega)
  have h9 : ((k : Int) == (xs.length : Int)) = false := by rw [beq_eq_false_iff_ne]; omega
  have h8 : decide ((cap : Int) < (xs.length : Int) + 1) = false := decide_eq_false (by omega)
  have HFF := Lib.hid hfin
  rw [← hW2] at hcA
  clear hA2 hA3 hA2s hA3s hs2 hW2 hg2 ho2 hB2 hdl hcut hcell HF htk hcl hvl hcs hsz hby hzs hi hz0 hfin h1c h1v h hy hcurt
  go_enter Tryz.func52, Tryz.ntmps52
  go_wp2_with (first
    | simp only [hov]
    | (at_builtin; refine wpList_copy_is rfl (.tmp 80) (.tmp 81) 23 23 rfl rfl rfl hcB ?_))
  go_region_law (refine step_copy_is rfl (.tmp 73) (.tmp 76) 23 23 rfl (v := .slice (some ⟨g, (k + 1) * 2, none⟩) (xs.length - k) (cap - (k + 1))) (u := .slice (some ⟨g, k * 2, none⟩) (xs.length + 1 - k) (cap - k)) (by simp [Act.eval, Act.put]) (by simp [Act.eval, Act.put]) hcA ?_)
  all_goals
    go_wp2_with (at_builtin; refine wpList_copy_is rfl (.tmp 80) (.tmp 81) 23 23 rfl rfl rfl hcB ?_)
    go_ret
    exact ⟨_, _, rfl, HFF.out, hBf⟩
/-- a file put in at any place -/
theorem insert_file {B m m1 : Nat} (v : Value) (k : Nat) (xs : List File) (w : World) (h : Fresh B m w [v] xs) (hB : B ≤ w.heap.size) {vb : Nat} {vs : List Value} {te : TypeId} {y : File} (hvb : w.heap[vb]? = some (.cells vs.toArray te (0, 0))) (hy : Fresh m m1 w vs y) (hBm : B ≤ m) (hvm : m ≤ vb) (hl : xs.length ≤ 1000) (hk : k ≤ xs.length) :
    Calls Tryz.prog 52 #[v, .int .i64 k, .slice (some ⟨vb, 0, none⟩) 1 1] w fun e w' => ∃ a' c', e = .returned (.slice a' (xs.length + 1) c') ∧ Fresh B w'.heap.size w' [.slice a' (xs.length + 1) c'] (xs.take k ++ y :: xs.drop k) ∧ Below B w w' := by
  by_cases hke : k = xs.length
  · subst hke
    exact insert_end v xs w h hB hvb hy hBm hl
  · obtain ⟨a, cap, rfl, hs⟩ := h.shape
    obtain ⟨g, rfl, _⟩ := h.addr (by omega)
    by_cases hc : xs.length + 1 ≤ cap
    · exact insert_room g cap k xs w h hB hvb hy hBm hvm hl (by omega) hc
    · exact insert_grow g cap k xs w h hB hvb hy hBm hvm hl (by omega) hc
end Go.Proofs.YthddcfbjgcbioaaGreatDoor
namespace Go.Proofs.YthddcfbjgcbioaaGreatDoor
open Go.RowKit Go.Vc
open Go.Vc.Rep (rd)
open Go.Vc.Own (own)
set_option maxHeartbeats 8000000 in
set_option maxRecDepth 100000 in
theorem implPut {S T : Nat → Prop} (v : Value) (t : List File) (p : ByteArray) (tv : Value) (tx : List ByteArray) (w : World) (hv : rd S w [v] t) (ha : AscF t) (hl : t.length ≤ 900) (hx : ∀ f, f ∈ t → f.text.length ≤ 10) (hz : p.size ≤ maxLen) (ht : rd T w [tv] tx) (htx : tx.length ≤ 1000) :
    Calls Tryz.prog 26 #[v, .agg #[.string p, tv]] w fun e w' => ∃ v', e = .returned (.tuple #[v', .bool (decide ((setT t ⟨p, tx⟩).length = t.length + 1))]) ∧ Fresh w.heap.size w'.heap.size w' [v'] (setT t ⟨p, tx⟩) ∧ Below w.heap.size w w' := by
  obtain ⟨a, cap, rfl, hs⟩ := rd_slice_elim (Rep.lt hv)
  obtain ⟨at_, ct, rfl, hts0⟩ := rd_slice_elim (Rep.lt ht)
  obtain ⟨K, hK, hKl, hcase⟩ := put_is ha ⟨p, tx⟩
  obtain ⟨wb, hwb⟩ : ∃ wb, wb = w.alloc (.cells #[.string p, .slice at_ tx.length ct] 36) := ⟨_, rfl⟩
  obtain ⟨hB0, hsb, hq⟩ := boxed (vs := [.string p, .slice at_ tx.length ct]) hwb
  have q0 := hq 0 _ rfl
  have q1 := hq 1 _ rfl
  have HW := Lib.hid hwb
  have hsz0 : w.heap.size < wb.heap.size := by omega
  clear hq hwb hsb hv ht
  go_enter Tryz.func26, Tryz.ntmps26
  go_wp2_with fail
  rw [← HW.out]
  refine (copyTree_any _ t _ (hs.keep hB0).rd (by omega) hx).mono ?_
  rintro e w2 ⟨vc, rfl, hC, hb1⟩
  have hs1 := hb1.size
  have q0 := keepc q0 hb1
  have q1 := keepc q1 hb1
  obtain ⟨a1, c1, rfl, _⟩ := hC.shape
  have hB1 := hB0.trans (hb1.mono hB0.size)
  have HK : Hid (K = putK p t t.length) := hK
  have HC := Lib.hid hcase
  clear hb1 HW hs hx ha hcase hK hB0
  go_wp2
  go_loopw [7] (fun i wr => (∃ j : Nat, j ≤ t.length ∧ i = .int .i64 j ∧ Hid (K = putK p t j)) ∧ Below w2.heap.size w2 wr) (fun i _ => (intOf i).toNat)
  case atStart => exact ⟨⟨t.length, by omega, rfl, HK.out⟩, Below.refl _ _⟩
  case round =>
    obtain ⟨⟨j, hj, rfl, HA⟩, hbr⟩ := hrel
    have hC := (hC.below (Nat.le_refl _) hbr)
    have q0 := keepc q0 hbr
    have q1 := keepc q1 hbr
    have hts := hts0.keep (hB1.trans (hbr.mono hB1.size))
    have hB := hB1.trans (hbr.mono hB1.size)
    have hsr := hbr.size
    clear HK hB1
    obtain ⟨wx, rfl⟩ : ∃ wx : World, wx = wr := ⟨_, rfl⟩
    have h3 : (K = j ∧ ¬ 0 < j) ∨ (∃ i, ∃ h : i < t.length, (j : Int) - 1 = (i : Int) ∧ 0 < j ∧ K = j ∧ lessB t[i].path p = true) ∨ (∃ i, ∃ h : i < t.length, j = i + 1 ∧ K = putK p t i ∧ lessB t[i].path p = false) := by
      cases j with
      | zero => exact .inl ⟨HA.out, by omega⟩
      | succ i =>
        cases hl : lessB (t[i]'(by omega)).path p with
        | true => exact .inr (.inl ⟨i, by omega, by omega, by omega, putK_stop HA.out (by omega) hl, hl⟩)
        | false => exact .inr (.inr ⟨i, by omega, rfl, putK_next HA.out (by omega) hl, hl⟩)
    clear HA
    rcases h3 with ⟨h3, h30⟩ | ⟨i, hi, hij, hj0, h3, hls⟩ | ⟨i, hi, rfl, h3, hls⟩
    case' inr.inr =>
      obtain ⟨g, off, at2, ct2, he, hc1, _⟩ := (rd_slice_of hC.rd2).2.file hi
      subst he
      have hl' : Op.bytesLess t[i].path.toList p.toList = false := hls
      obtain ⟨f, hf⟩ : ∃ f, f = t[i] := ⟨_, rfl⟩
      rw [← hf] at hc1 hl'
      have e0 := BW.cell q0
      have e1 := BW.cell hc1
      have HN := Lib.hid h3
      have hpos : decide ((0 : Int) < (i : Int) + 1) = true := decide_eq_true (by omega)
      clear hls hf h3
      go_wp2
      refine wp_region_bw (by kernel_rfl) (by kernel_rfl) ?_
      repeat (go_big_quiet_step (fail))
      refine wpQuiet_nil ?_
      rintro w1 ⟨⟨_, hbw⟩, rfl⟩
      go_wp2
      go_roundw
      case rel => exact ⟨⟨i, by omega, by go_num, HN.out⟩, hbr.trans (hbw.mono (by have := hbr.size; omega))⟩
      case measure => simp [intOf] <;> omega
    case' inl =>
      have hpos : decide ((0 : Int) < (j : Int)) = false := decide_eq_false (by omega)
      go_wp2
      refine wp_region_bw (by kernel_rfl) (by kernel_rfl) ?_
      repeat (go_big_quiet_step (fail))
      refine wpQuiet_nil ?_
      rintro w1 ⟨⟨_, hbw⟩, rfl⟩
    case' inr.inl =>
      obtain ⟨g, off, at2, ct2, he, hc1, _⟩ := (rd_slice_of hC.rd2).2.file hi
      have hl' : Op.bytesLess t[i].path.toList p.toList = true := hls
      obtain ⟨f, hf⟩ : ∃ f, f = t[i] := ⟨_, rfl⟩
      rw [← hf] at hc1 hl'
      obtain ⟨a9, ha9⟩ : ∃ a9, a9 = a1 := ⟨_, rfl⟩
      rw [← ha9] at he
      have HE := Lib.hid ha9
      clear ha9
      have e0 := BW.cell q0
      have e1 := BW.cell hc1
      have hpos : decide ((0 : Int) < (j : Int)) = true := decide_eq_true (by omega)
      have hw : IntKind.i64.wrap ((j : Int) - 1) = (i : Int) := by rw [hij]; exact IntWalk.i64_in _ (by omega)
      have hHE := HE.out
      subst he
      subst hHE
      clear hls hf HE
      go_wp2
      refine wp_region_bw (by kernel_rfl) (by kernel_rfl) ?_
      repeat (go_big_quiet_step (fail))
      refine wpQuiet_nil ?_
      rintro w1 ⟨⟨_, hbw⟩, rfl⟩
      clear e0 e1 hc1 hl' hw hij
      obtain ⟨a1, ha1⟩ : ∃ a1, a1 = (some ⟨g, off, none⟩ : Option Addr) := ⟨_, rfl⟩
      rw [← ha1] at hC ⊢
      clear ha1
    all_goals
      subst h3
      have hC := (hC.below (Nat.le_refl _) hbw)
      have q0 := keepc q0 hbw
      have q1 := keepc q1 hbw
      have hB := hB.trans (hbw.mono hB.size)
      have hs2 := hbr.size
      have hs3 := hbw.size
      have hts := hts0.keep hB
      clear hbw hbr hpos
      obtain ⟨wo, hwo⟩ : ∃ wo : World, wo = w1 := ⟨_, rfl⟩
      subst hwo
      have K0 := And.intro q0 q1
      go_wp2_with fail
      go_region_held3 (fun w' => w'.cell? ⟨w.heap.size, 0, none⟩ = some (.string p) ∧ w'.cell? ⟨w.heap.size, 1, none⟩ = some (.slice at_ tx.length ct))
        (first | exact ⟨keepc KA.1 ((Below.refl _ _).alloc (Nat.le_refl _) _), keepc KA.2 ((Below.refl _ _).alloc (Nat.le_refl _) _)⟩ | exact KA | exact K0 | exact ⟨keepc q0 ((hbV.setCell (p := ⟨wo.heap.size, 0, none⟩) (Nat.le_refl _) _).setCell (p := ⟨wo.heap.size, 1, none⟩) (Nat.le_refl _) _), keepc q1 ((hbV.setCell (p := ⟨wo.heap.size, 0, none⟩) (Nat.le_refl _) _).setCell (p := ⟨wo.heap.size, 1, none⟩) (Nat.le_refl _) _)⟩ | go_keep)
        (first
          | (go_at_call 49; refine (copyText_any _ tx _ (Rep.drew hts.rd) (by omega)).mono ?_; rintro e wA ⟨aA, cA, rfl, hA, hbA⟩; have hszA := hbA.size; have KA := And.intro (BW.cell (w := wo.drew) q0 ⟨wA, hbA⟩) (BW.cell (w := wo.drew) q1 ⟨wA, hbA⟩); have hO1 := True.intro)
          | (go_at_call 49; go_must (refine (copyText_any _ tx _ (Rep.drew (Rep.alloc hts.rd (.cells #[.string ⟨#[]⟩, .slice none 0 0] 36))) (by omega)).mono ?_); rintro e wA ⟨aA, cA, rfl, hA, hbA⟩; have hszA := hbA.size; have hbV := ((Below.refl wo.heap.size wo).alloc (Nat.le_refl _) (.cells #[.string ⟨#[]⟩, .slice none 0 0] 36)).drew.trans (hbA.mono (by simp)); have KA := And.intro (keepc q0 hbV) (keepc q1 hbV); have hbx9 := (hbA.block wo.heap.size (by simp)).trans (heap_alloc_new wo (.cells #[.string ⟨#[]⟩, .slice none 0 0] 36)); have x0 := (cell_of_row wA wo.heap.size 0 _ _ (0, 0) hbx9); have x1 := (cell_of_row wA wo.heap.size 1 _ _ (0, 0) hbx9); have z0 := frozen_of_row wA wo.heap.size 0 _ _ hbx9; have z1 := frozen_of_row wA wo.heap.size 1 _ _ hbx9; simp at x0 x1; have hO2 := True.intro))
      any_goals (
        have hm := hO1
        have hzx : wo.heap.size ≤ wA.heap.size := hszA
        obtain ⟨wz, hwz⟩ : ∃ wz, wz = wA.alloc (.cells #[.string p, .slice aA tx.length cA] 36) := ⟨_, rfl⟩
        have hbox : wz.heap[wA.heap.size]? = some (.cells #[.string p, .slice aA tx.length cA] 36 (0, 0)) := (by rw [hwz]; exact heap_alloc_new _ _)
        have hbz : Below wo.heap.size wo wz := (by rw [hwz]; exact ((Below.refl _ _).drew.trans (hbA.mono (by simp))).alloc hzx _)
        have hAz : Fresh wo.heap.size wz.heap.size wz [.slice aA tx.length cA] tx := (by rw [hwz]; exact (hA.alloc _).mono (by simp) (by simp))
        have hKz : wz.cell? ⟨w.heap.size, 0, none⟩ = some (.string p) ∧ wz.cell? ⟨w.heap.size, 1, none⟩ = some (.slice at_ tx.length ct) := (by rw [hwz]; exact ⟨keepc KA.1 ((Below.refl _ _).alloc (Nat.le_refl _) _), keepc KA.2 ((Below.refl _ _).alloc (Nat.le_refl _) _)⟩)
        obtain ⟨cb, hcb⟩ : ∃ cb, cb = wA.heap.size := ⟨_, rfl⟩
        rw [← hcb] at hbox
        clear hm hO1 KA hA hbA hszA hzx
        rw [← hwz, ← hcb])
      any_goals (
        have hm := hO2
        obtain ⟨wz, hwz⟩ : ∃ wz, wz = (wA.setCell ⟨wo.heap.size, 0, none⟩ (.string p)).setCell ⟨wo.heap.size, 1, none⟩ (.slice aA tx.length cA) := ⟨_, rfl⟩
        have hbox : wz.heap[wo.heap.size]? = some (.cells #[.string p, .slice aA tx.length cA] 36 (0, 0)) := (by rw [hwz]; exact heap_setCell_same _ _ 1 _ _ _ (heap_setCell_same _ _ 0 _ _ _ hbx9))
        have hbz : Below wo.heap.size wo wz := (by rw [hwz]; exact (hbV.setCell (p := ⟨wo.heap.size, 0, none⟩) (Nat.le_refl _) _).setCell (p := ⟨wo.heap.size, 1, none⟩) (Nat.le_refl _) _)
        have hAz : Fresh wo.heap.size wz.heap.size wz [.slice aA tx.length cA] tx := (by rw [hwz]; exact (((hA.mono (B' := wo.heap.size + 1) (by simp) (Nat.le_refl _)).setCell (.inl (Nat.lt_succ_self _))).setCell (.inl (Nat.lt_succ_self _))).mono (by omega) (by simp))
        have hKz : wz.cell? ⟨w.heap.size, 0, none⟩ = some (.string p) ∧ wz.cell? ⟨w.heap.size, 1, none⟩ = some (.slice at_ tx.length ct) := ⟨keepc q0 hbz, keepc q1 hbz⟩
        obtain ⟨cb, hcb⟩ : ∃ cb, cb = wo.heap.size := ⟨_, rfl⟩
        rw [← hcb] at hbox
        clear hm hO2 KA hA hbA hszA hbV x0 x1 z0 z1 hbx9
        rw [← hwz, ← hcb])
      all_goals
        have hsz := hbz.size
        have hC := (hC.below (Nat.le_refl _) hbz)
        have q0 := hKz.1
        have hBz := hB.trans (hbz.mono hB.size)
        have hy : Fresh w2.heap.size wz.heap.size wz [.string p, .slice aA tx.length cA] (⟨p, tx⟩ : File) := Fresh.file (p := ⟨p, tx⟩) hz (hAz.mono (by omega) (Nat.le_refl _))
        have hcl := (Array.getElem?_eq_some_iff.1 hbox).1
        have b0 : wz.cell? ⟨cb, 0, none⟩ = some (.string p) := by rw [cell_of_row wz cb 0 _ _ (0, 0) hbox]; rfl
        have b1 : wz.cell? ⟨cb, 1, none⟩ = some (.slice aA tx.length cA) := by rw [cell_of_row wz cb 1 _ _ (0, 0) hbox]; rfl
        have hw2z : w2.heap.size ≤ wz.heap.size := by omega
        clear hKz hAz hbz hbox hts hs2 hs3 hwz hcb K0 hB
        rcases HC.out with ⟨hk, hkp, hset, hlen⟩ | ⟨hkp, hset, hlen⟩
        · obtain ⟨g7, he7, _⟩ := hC.addr (by omega)
          cases he7
          obtain ⟨g8, off8, at8, ct8, he8, hc1, _⟩ := (rd_slice_of hC.rd2).2.file hk
          cases he8
          rw [Nat.zero_add] at hc1
          have hd : decide (t[K].path = p) = true := decide_eq_true hkp
          obtain ⟨f, hf⟩ : ∃ f, f = t[K] := ⟨_, rfl⟩
          rw [← hf] at hc1 hd
          have e0 := BW.cell q0
          have e1 := BW.cell hc1
          clear hf
          go_wp2
          refine wp_region_bw (by kernel_rfl) (by kernel_rfl) ?_
          repeat (go_big_quiet_step (fail))
          refine wpQuiet_nil ?_
          rintro w1 ⟨⟨_, hbw⟩, rfl⟩
          have hC := (hC.below (Nat.le_refl _) hbw)
          have hy := hy.below (Nat.le_refl _) hbw
          have b0 := keepc b0 hbw
          have b1 := keepc b1 hbw
          have hBw := hBz.trans (hbw.mono hBz.size)
          have hszw := hbw.size
          obtain ⟨u0, u1, k0, k1, z0, z1⟩ := hC.cells2 rfl hk
          have hF := (hC.setN hk hy (by omega))
          have hB9 : Below w.heap.size w (setCellsAt w1 g7 (K * Rep.sz File) [.string p, .slice aA tx.length cA]) := setCellsAt_below g7 (by have := (hC.there hk (j := 0) (by decide)).2.2; omega) _ _ _ hBw
          have HF9 := Lib.hid hF
          clear e0 e1 hc1 hd hF hkp hy hC
          go_wp2
          go_ret2
          exact ⟨.slice (some ⟨g7, 0, none⟩) t.length c1, by rw [decide_eq_false (by omega)]; rfl, by rw [hset]; exact HF9.out.mono (by omega) (Nat.le_refl _), hB9⟩
        · by_cases hk : K < t.length
          · obtain ⟨g7, he7, _⟩ := hC.addr (by omega)
            cases he7
            obtain ⟨g8, off8, at8, ct8, he8, hc1, _⟩ := (rd_slice_of hC.rd2).2.file hk
            cases he8
            rw [Nat.zero_add] at hc1
            have hd : decide (t[K].path = p) = false := decide_eq_false (hkp hk)
            obtain ⟨f, hf⟩ : ∃ f, f = t[K] := ⟨_, rfl⟩
            rw [← hf] at hc1 hd
            have e0 := BW.cell q0
            have e1 := BW.cell hc1
            clear hf hkp
            go_wp2
            refine wp_region_bw (by kernel_rfl) (by kernel_rfl) ?_
            repeat (go_big_quiet_step (fail))
            refine wpQuiet_nil ?_
            rintro w1 ⟨⟨_, hbw⟩, rfl⟩
            have hC := (hC.below (Nat.le_refl _) hbw)
            have hy := hy.below (Nat.le_refl _) hbw
            have b0 := keepc b0 hbw
            have b1 := keepc b1 hbw
            have hBw := hBz.trans (hbw.mono hBz.size)
            have hszw := hbw.size
            clear e0 e1 hc1 hd
            go_wp2_with fail
            refine (insert_file (B := wb.heap.size) (m := w2.heap.size) (vs := [.string p, .slice aA tx.length cA]) (y := ⟨p, tx⟩) _ K t _ (hC.alloc _) (by simp; omega) (heap_alloc_new _ _) (hy.alloc _) (by omega) (by omega) (by omega) hKl).mono ?_
            rintro e w9 ⟨a9, c9, rfl, hF, hb9⟩
            have hb8 := (Below.refl w1.heap.size w1).alloc (Nat.le_refl _) (.cells #[.string p, .slice aA tx.length cA] 36)
            have hB9 : Below w.heap.size w w9 := (hBw.alloc hBw.size _).trans (hb9.mono (by omega))
            go_wp2
            go_ret2
            exact ⟨.slice a9 (t.length + 1) c9, by rw [decide_eq_true hlen]; rfl, by rw [hset]; exact hF.mono (by omega) (Nat.le_refl _), hB9⟩
          · have hk' : decide (K < t.length) = false := decide_eq_false hk
            clear hkp
            go_wp2
            refine wp_region_bw (by kernel_rfl) (by kernel_rfl) ?_
            repeat (go_big_quiet_step (fail))
            refine wpQuiet_nil ?_
            rintro w1 ⟨⟨_, hbw⟩, rfl⟩
            have hC := (hC.below (Nat.le_refl _) hbw)
            have hy := hy.below (Nat.le_refl _) hbw
            have b0 := keepc b0 hbw
            have b1 := keepc b1 hbw
            have hBw := hBz.trans (hbw.mono hBz.size)
            have hszw := hbw.size
            go_wp2_with fail
            refine (insert_file (B := wb.heap.size) (m := w2.heap.size) (vs := [.string p, .slice aA tx.length cA]) (y := ⟨p, tx⟩) _ K t _ (hC.alloc _) (by simp; omega) (heap_alloc_new _ _) (hy.alloc _) (by omega) (by omega) (by omega) hKl).mono ?_
            rintro e w9 ⟨a9, c9, rfl, hF, hb9⟩
            have hb8 := (Below.refl w1.heap.size w1).alloc (Nat.le_refl _) (.cells #[.string p, .slice aA tx.length cA] 36)
            have hB9 : Below w.heap.size w w9 := (hBw.alloc hBw.size _).trans (hb9.mono (by omega))
            go_wp2
            go_ret2
            exact ⟨.slice a9 (t.length + 1) c9, by rw [decide_eq_true hlen]; rfl, by rw [hset]; exact hF.mono (by omega) (Nat.le_refl _), hB9⟩
end Go.Proofs.YthddcfbjgcbioaaGreatDoor
