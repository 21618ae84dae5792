/-
  A value put into the midst of an own slice: what copies and appends of cells give. No program is in sight here.
-/
import Derived.Test.YtfpneepnnoldeaaDoorVB
import Derived.Laws.CopyRow
import Derived.Lib.AppendZerosOnto
set_option linter.unusedVariables false
namespace Go.Vc
open Go.RowKit
open Rep (rd)
open Own (own)
/-- copy between slices of elements of z cells -/
theorem run_copy_rowZ {P : Program} (w : World) (dT sT ty elem : TypeId) (g o dLen dCap : Nat) (a : Addr) (sLen sCap : Nat) (cur : Array Value) (t : TypeId) (cs : List Value) (z : Nat)
    (hu : P.underlying dT = some (.slice elem)) (hs : (P.info? elem).map (·.size) = some z)
    (hg : w.heap[g]? = some (.cells cur t (0, 0))) (hn : cs.length = Nat.min sLen dLen * z)
    (hsrc : ∀ j v, cs[j]? = some v → w.cell? (a.add j) = some v) (hfit : o + cs.length ≤ cur.size) (h1 : ∀ v ∈ cs, v.oneCell' = true) :
    (Builtin.copy_ #[dT, sT] ty #[.slice (some ⟨g, o, none⟩) dLen dCap, .slice (some a) sLen sCap]).run P w =
      .ok (goInt (Nat.min sLen dLen)) (w.setRow g (cur.toList.take o ++ cs ++ cur.toList.drop (o + cs.length)).toArray) := by
  have hl := run_loadCells_list (P := P) w a cs hsrc
  have hst := run_storeCells_at P g o t cs 0 cur w hg (by simpa using hfit) h1
  cases hq : P.info? elem with
  | none => simp [hq] at hs
  | some i =>
    have hi : i.size = z := by simpa [hq] using hs
    simp [Builtin.copy_, run_underlying hu, Builtin.lenOf, Builtin.firstCells, sizeOf, typeInfo, hq, hi, ← hn, hl, hst]
/-- the cells of a list of elements, one put in -/
theorem ownAll.ins {α : Type} [Own α] {w : World} {G : List Nat} {d : List Value} {y : α} : ∀ {Fs : List (List Nat)} {cs : List (List Value)} {xs : List α} (k : Nat), k ≤ xs.length → ownAll w Fs cs xs → own G w d y → ownAll w (Fs.take k ++ G :: Fs.drop k) (cs.take k ++ d :: cs.drop k) (xs.take k ++ y :: xs.drop k)
  | _, _, _, 0, _, h, k => ⟨k, h⟩
  | F :: Fs, c :: cs, x :: xs, k + 1, hk, h, hy => ⟨h.1, ownAll.ins k (by simpa using hk) h.2 hy⟩
  | [], [], [], k + 1, hk, _, _ => absurd hk (by simp)
  | [], [], _ :: _, _ + 1, _, h, _ => h.elim
  | [], _ :: _, [], _ + 1, _, h, _ => h.elim
  | [], _ :: _, _ :: _, _ + 1, _, h, _ => h.elim
  | _ :: _, [], [], _ + 1, _, h, _ => h.elim
  | _ :: _, [], _ :: _, _ + 1, _, h, _ => h.elim
  | _ :: _, _ :: _, [], _ + 1, _, h, _ => h.elim
theorem flat_take {α : Type} {z : Nat} : ∀ {cs : List (List α)}, (∀ c ∈ cs, c.length = z) → ∀ k, (cs.take k).flatten = cs.flatten.take (k * z)
  | [], _, k => by simp
  | c :: cs, h, 0 => by simp
  | c :: cs, h, k + 1 => by
    have hc := h c (List.mem_cons_self ..)
    rw [List.take_succ_cons, List.flatten_cons, List.flatten_cons, flat_take (fun c hc => h c (List.mem_cons_of_mem _ hc)) k]
    rw [show (k + 1) * z = c.length + k * z by rw [hc, Nat.add_mul]; omega, List.take_length_add_append]
theorem flat_drop {α : Type} {z : Nat} : ∀ {cs : List (List α)}, (∀ c ∈ cs, c.length = z) → ∀ k, (cs.drop k).flatten = cs.flatten.drop (k * z)
  | [], _, k => by simp
  | c :: cs, h, 0 => by simp
  | c :: cs, h, k + 1 => by
    have hc := h c (List.mem_cons_self ..)
    rw [List.drop_succ_cons, List.flatten_cons, flat_drop (fun c hc => h c (List.mem_cons_of_mem _ hc)) k]
    rw [show (k + 1) * z = c.length + k * z by rw [hc, Nat.add_mul]; omega, List.drop_length_add_append]
/-- an own slice's row, seen as cells: what is known of it, and what a row that holds one more is -/
theorem Fresh.cut {α : Type} [Own α] [Tid α] {B m m1 : Nat} {w : World} {g n cap : Nat} {xs : List α} {vs : List Value} {y : α}
    (h : Fresh B m w [.slice (some ⟨g, 0, none⟩) n cap] xs) (hy : Fresh m m1 w vs y) {k : Nat} (hk : k ≤ xs.length) :
    ∃ cur cells, w.heap[g]? = some (.cells cur (Tid.tid α) (0, 0)) ∧ B ≤ g ∧ g < m ∧ cur.size = cap * Rep.sz α ∧ xs.length ≤ cap ∧ cap ≤ maxLen ∧ cells.length = xs.length * Rep.sz α ∧ cur.toList.take (xs.length * Rep.sz α) = cells ∧ (∀ u ∈ cells, u.oneCell' = true) ∧ vs.length = Rep.sz α ∧ (∀ u ∈ vs, u.oneCell' = true) ∧
      (∀ {w' : World} {g' cap' : Nat} {A : Array Value}, w'.heap[g']? = some (.cells A (Tid.tid α) (0, 0)) → A.size = cap' * Rep.sz α → xs.length + 1 ≤ cap' → cap' ≤ maxLen → A.toList.take ((xs.length + 1) * Rep.sz α) = cells.take (k * Rep.sz α) ++ vs ++ cells.drop (k * Rep.sz α) →
        (g' = g ∨ w.heap.size ≤ g') → (∀ b, b < w.heap.size → b ≠ g → w'.heap[b]? = w.heap[b]?) → B ≤ g' → B ≤ m → Fresh B w'.heap.size w' [.slice (some ⟨g', 0, none⟩) (xs.length + 1) cap'] (xs.take k ++ y :: xs.drop k)) := by
  obtain ⟨F, ho, hn, hb⟩ := h
  obtain ⟨G, hoy, hny, hby⟩ := hy
  obtain ⟨v, cs, Fs, hv, hrow, rfl, hall, hz⟩ := ho
  simp at hv
  subst hv
  obtain ⟨h1, h2, h3⟩ := hall.lens
  have hd : vs.length = Rep.sz α := Rep.len (Own.rd_of hoy)
  rcases hrow.2 with ⟨hh, _⟩ | ⟨g', cap', cur, hh, _, hg, hnc, hcm, hcs, htake⟩
  · simp at hh
  · simp only [Value.slice.injEq, Option.some.injEq, Addr.mk.injEq, and_true] at hh
    obtain ⟨rfl, rfl, rfl⟩ := hh
    have hgm := hb g (by simp [Value.ownBlock])
    simp only [Value.ownBlock, Option.toList_some, List.cons_append, List.nil_append] at hn
    obtain ⟨hgF, hnF⟩ := List.nodup_cons.1 hn
    refine ⟨cur, cs.flatten, hg, hgm.1, hgm.2, hcs, hnc, hcm, hrow.1, htake, fun u hu => ?_, hd, fun u hu => Rep.one (Own.rd_of hoy) u hu, ?_⟩
    · obtain ⟨c', hc', hu'⟩ := List.mem_flatten.1 hu
      obtain ⟨i, hi, hci⟩ := List.getElem_of_mem hc'
      obtain ⟨F', c'', hF, hc2, ho⟩ := hall.at i (by omega)
      have : c'' = c' := by rw [List.getElem?_eq_getElem hi] at hc2; simp at hc2; rw [← hc2, hci]
      subst this
      exact Rep.one (Own.rd_of ho) u hu'
    · intro w' g' cap' A hA hAs hn1 hcm' hcells hgg hrest hBg hBm
      have hins := ownAll.ins (w := w) k hk hall hoy
      have hfl : (cs.take k ++ vs :: cs.drop k).flatten = cs.flatten.take (k * Rep.sz α) ++ vs ++ cs.flatten.drop (k * Rep.sz α) := by
        rw [List.flatten_append, List.flatten_cons, flat_take h3, flat_drop h3, List.append_assoc]
      have hperm : ∀ b, b ∈ (Fs.take k ++ G :: Fs.drop k).flatten → b ∈ Fs.flatten ∨ b ∈ G := fun b hbm => by
        rw [List.flatten_append, List.flatten_cons] at hbm
        rcases List.mem_append.1 hbm with h | h
        · obtain ⟨l, hl, hb'⟩ := List.mem_flatten.1 h
          exact .inl (List.mem_flatten.2 ⟨l, List.mem_of_mem_take hl, hb'⟩)
        · rcases List.mem_append.1 h with h | h
          · exact .inr h
          · obtain ⟨l, hl, hb'⟩ := List.mem_flatten.1 h
            exact .inl (List.mem_flatten.2 ⟨l, List.mem_of_mem_drop hl, hb'⟩)
      have hlt : ∀ b, b ∈ (Fs.take k ++ G :: Fs.drop k).flatten → b < w.heap.size := fun b hbm => hins.lt b hbm
      have hng : ∀ b, b ∈ (Fs.take k ++ G :: Fs.drop k).flatten → b ≠ g := fun b hbm e => by
        subst e
        rcases hperm _ hbm with h | h
        · exact hgF h
        · have := hby _ h; omega
      have hlen : (xs.take k ++ y :: xs.drop k).length = xs.length + 1 := by simp; omega
      refine ⟨g' :: (Fs.take k ++ G :: Fs.drop k).flatten, ⟨_, cs.take k ++ vs :: cs.drop k, Fs.take k ++ G :: Fs.drop k, rfl, ⟨?_, .inr ⟨g', cap', A, by rw [hlen], Nat.zero_le _, hA, by rw [hlen]; exact hn1, hcm', hAs, by rw [hlen, hcells, hfl]⟩⟩, by simp [Value.ownBlock], hins.frame fun b hbm => hrest b (hlt b hbm) (hng b hbm), hz⟩, List.nodup_cons.2 ⟨fun hm => ?_, ?_⟩, fun b hbm => ?_⟩
      · rw [hlen, hfl, List.length_append, List.length_append, List.length_take, List.length_drop, hrow.1, hd, Nat.add_mul]
        have : k * Rep.sz α ≤ xs.length * Rep.sz α := Nat.mul_le_mul_right _ hk
        omega
      · rcases hgg with rfl | h
        · exact hng _ hm rfl
        · have := hlt _ hm; omega
      · have e : (Fs.take k ++ G :: Fs.drop k).flatten = (Fs.take k).flatten ++ (G ++ (Fs.drop k).flatten) := by rw [List.flatten_append, List.flatten_cons]
        have e2 : Fs.flatten = (Fs.take k).flatten ++ (Fs.drop k).flatten := by rw [← List.flatten_append, List.take_append_drop]
        rw [e2] at hnF
        obtain ⟨n1, n2, n3⟩ := List.nodup_append.1 hnF
        have hGd : ∀ b, b ∈ Fs.flatten → b ∉ G := fun b hb1 hb2 => by
          have := hby b hb2
          have := (hb b (by simp [Value.ownBlock, hb1])).2
          omega
        rw [e]
        refine List.nodup_append.2 ⟨n1, List.nodup_append.2 ⟨hny, n2, fun a ha b hbb e => ?_⟩, fun a ha b hbb e => ?_⟩
        · subst e
          exact hGd a (by rw [e2]; exact List.mem_append.2 (.inr hbb)) ha
        · subst e
          rcases List.mem_append.1 hbb with h | h
          · exact hGd a (by rw [e2]; exact List.mem_append.2 (.inl ha)) h
          · exact n3 a ha a h rfl
      · have hA' : g' < w'.heap.size := (Array.getElem?_eq_some_iff.1 hA).1
        rcases List.mem_cons.1 hbm with rfl | hbm
        · exact ⟨hBg, hA'⟩
        · have hlb := hlt b hbm
          have hgb : b < w'.heap.size := by
            have hwb := hrest b hlb (hng b hbm)
            rw [Array.getElem?_eq_getElem hlb] at hwb
            exact (Array.getElem?_eq_some_iff.1 hwb).1
          rcases hperm b hbm with h | h
          · exact ⟨(hb b (by simp [Value.ownBlock, h])).1, hgb⟩
          · exact ⟨by have := (hby b h).1; omega, hgb⟩
theorem ins_cells {A1 cells vs : List Value} {k : Nat} (h1 : A1.take k = cells.take k) (hk : k ≤ cells.length) (hA : k + vs.length ≤ A1.length) {rest : List Value} :
    (((A1.take k ++ vs ++ A1.drop (k + vs.length)).take (k + vs.length) ++ cells.drop k ++ rest).take (cells.length + vs.length)) = cells.take k ++ vs ++ cells.drop k := by
  have e1 : (A1.take k ++ vs ++ A1.drop (k + vs.length)).take (k + vs.length) = cells.take k ++ vs := by
    rw [List.take_left' (by simp; omega), h1]
  rw [e1]
  exact List.take_left' (by simp; omega)
theorem ins_cells2 {A1 cells vs : List Value} {k : Nat} (h1 : A1.take k = cells.take k) (hk : k ≤ cells.length) (hA : k + vs.length ≤ A1.length) {rest : List Value} :
    (((A1.take (k + vs.length) ++ cells.drop k ++ rest).take k ++ vs ++ (A1.take (k + vs.length) ++ cells.drop k ++ rest).drop (k + vs.length)).take (cells.length + vs.length)) = cells.take k ++ vs ++ cells.drop k := by
  have e1 : (A1.take (k + vs.length) ++ cells.drop k ++ rest).take k = cells.take k := by
    rw [List.append_assoc, List.take_append_of_le_length (by simp; omega), List.take_take, ← h1]
    congr 1
    omega
  have e2 : (A1.take (k + vs.length) ++ cells.drop k ++ rest).drop (k + vs.length) = cells.drop k ++ rest := by
    rw [List.append_assoc]
    exact List.drop_left' (by simp; omega)
  rw [e1, e2, ← List.append_assoc]
  exact List.take_left' (by simp; omega)
section
variable {P : Program} {ops : Array Oper} {rest : List Oper} {o : Oper} {a : Act} {w : World} {K : Act → World → Prop} {Q : Exit → Act → World → Prop} {E : Prop}
/-- 'copy(d, s)', its run known -/
theorem wpList_copy_is (hgd : o.guard = none) (d s : Operand) (t t' : TypeId) (ho : o.op = .call { callee := .builtin .copy, args := #[d, s], argTypes := #[t, t'] }) {v u : Value} (hd : a.eval d = v) (hs : a.eval s = u) {v' : Value} {w' : World}
    (hr : ∀ ty, (Builtin.copy_ #[t, t'] ty #[v, u]).run P w = .ok v' w') (h : wpList P ops Q rest (a.put o.dst v') w') : wpList P ops Q (o :: rest) a w := by
  refine wpList_plain hgd fun K hK => ?_
  unfold Oper.wp execOp
  simp only [ho, resolve, invoke, builtin, Sem.run_bind, Sem.run_pure, Result.andThen_ok, List.map_toArray, List.map_cons, List.map_nil, hd, hs, hr o.type]
  exact hK _ _ h
theorem step_copy_is (hg : o.guard = none) (d s : Operand) (t t' : TypeId) (ho : o.op = .call { callee := .builtin .copy, args := #[d, s], argTypes := #[t, t'] }) {v u : Value} (hd : a.eval d = v) (hs : a.eval s = u) {v' : Value} {w' : World}
    (hr : ∀ ty, (Builtin.copy_ #[t, t'] ty #[v, u]).run P w = .ok v' w') (hK : K (a.put o.dst v') w') : if Region.wanted o (yielded ops a.tmps) = true then Oper.wp P o a w K Q else E := by
  have hw : Region.wanted o (yielded ops a.tmps) = true := by simp [Region.wanted, hg]
  rw [if_pos hw]
  unfold Oper.wp execOp
  simp only [ho, resolve, invoke, builtin, Sem.run_bind, Sem.run_pure, Result.andThen_ok, List.map_toArray, List.map_cons, List.map_nil, hd, hs, hr o.type]
  exact hK
theorem wpList_append_is (hgd : o.guard = none) (d s : Operand) (t t' : TypeId) (ho : o.op = .call { callee := .builtin .append, args := #[d, s], argTypes := #[t, t'] }) {v u : Value} (hd : a.eval d = v) (hs : a.eval s = u) {v' : Value} {w' : World}
    (hr : ∀ ty, (Builtin.append_ #[t, t'] ty #[v, u]).run P w = .ok v' w') (h : wpList P ops Q rest (a.put o.dst v') w') : wpList P ops Q (o :: rest) a w := by
  refine wpList_plain hgd fun K hK => ?_
  unfold Oper.wp execOp
  simp only [ho, resolve, invoke, builtin, Sem.run_bind, Sem.run_pure, Result.andThen_ok, List.map_toArray, List.map_cons, List.map_nil, hd, hs, hr o.type]
  exact hK _ _ h
end
theorem setRow_size (w : World) (g : Nat) (A : Array Value) : (w.setRow g A).heap.size = w.heap.size := by
  unfold World.setRow
  simp
end Go.Vc
