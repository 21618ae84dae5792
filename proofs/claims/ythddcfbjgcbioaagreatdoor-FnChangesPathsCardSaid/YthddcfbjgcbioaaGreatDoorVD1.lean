/-
  One element taken out of an own row: what an append in place and a clear give. No program is in sight here. / Walks: a file taken out of an own row of files (the library's own text). / Walks: where a change's file stands among files (the library's own text over the program's closure). / Plain: the rounds of changes, as a walk wants them. No program is in sight here. / Plain: what is left, and what is put in, as a walk of changes wants it. No program is in sight here. / Plain: changes that are ok, as the reference looks at them. No program is in sight here. / Plain: the paths of changes, as the reference puts them, and the law of what changes do not touch. No program is in sight here. / Plain: what the reference's walk of changes wants. No program is in sight here.
-/
import Derived.Test.YthddcfbjgcbioaaGreatDoorVIN
import Derived.Test.YthddcfbjgcbioaaGreatDoorVR
import Derived.Lib.SliceRun
import Derived.Test.YthddcfbjgcbioaaGreatDoorVL
import Derived.Test.YthddcfbjgcbioaaGreatDoorVC
import Derived.Deep.RegionHeld3
import Derived.Laws.CopyOwn
import Derived.Test.YthddcfbjgcbioaaGreatDoorVPB
import Derived.Test.YthddcfbjgcbioaaGreatDoorVK
import Derived.Test.YthddcfbjgcbioaaGreatDoorVI
import Derived.Test.YthddcfbjgcbioaaGreatDoorVCH
import Derived.Test.YthddcfbjgcbioaaGreatDoorVPJ
set_option linter.unusedVariables false
namespace Go.Vc
open Go.RowKit
open Rep (rd)
open Own (own)
/-- 'append(s, x...)' where there is room, seen as rows -/
theorem run_append_rowZ {P : Program} (w : World) (t elem ty : TypeId) (i : TypeInfo) (z : Nat) (ht : P.underlying t = some (.slice elem)) (hi : P.info? elem = some i) (hz : i.size = z)
    (g n cap : Nat) (a : Addr) (m c : Nat) (cur : Array Value) (te : TypeId) (cs : List Value)
    (hg : w.heap[g]? = some (.cells cur te (0, 0))) (hn : cs.length = m * z) (hsrc : ∀ j v, cs[j]? = some v → w.cell? (a.add j) = some v) (hroom : n + m ≤ cap) (hfit : n * z + cs.length ≤ cur.size) (h1 : ∀ v ∈ cs, v.oneCell' = true) :
    (Builtin.append_ #[t, t] ty #[.slice (some ⟨g, 0, none⟩) n cap, .slice (some a) m c]).run P w = .ok (.slice (some ⟨g, 0, none⟩) (n + m) cap) (w.setRow g (cur.toList.take (n * z) ++ cs ++ cur.toList.drop (n * z + cs.length)).toArray) := by
  subst hz
  have hfc := run_firstCells_some (P := P) w i.size m a m c cs hn hsrc
  have hst := run_storeCells_at P g (n * i.size) te cs 0 cur w hg (by simpa using hfit) h1
  simp only [Nat.add_zero] at hst
  simp [Builtin.append_, run_underlying ht, sizeOf, typeInfo, hi, Builtin.lenOf, hroom, hfc, Addr.add_lit, hst]
/-- 'clear(s)', s one element -/
theorem run_clear_rowZ {P : Program} (w : World) (t elem ty : TypeId) (ht : P.underlying t = some (.slice elem)) (zv : Value) (hv : ∀ w, (zeroValue elem).run P w = .ok zv w) (zs : List Value) (hzc : (Builtin.zeroCells zv.cells 1).toList = zs)
    (g o c : Nat) (cur : Array Value) (te : TypeId) (hg : w.heap[g]? = some (.cells cur te (0, 0))) (hfit : o + zs.length ≤ cur.size) (h1 : ∀ v ∈ zs, v.oneCell' = true) :
    (Builtin.clear_ #[t] ty #[.slice (some ⟨g, o, none⟩) 1 c]).run P w = .ok (.tuple #[]) (w.setRow g (cur.toList.take o ++ zs ++ cur.toList.drop (o + zs.length)).toArray) := by
  have hst := run_storeCells_at P g o te zs 0 cur w hg (by simpa using hfit) h1
  simp only [Nat.add_zero] at hst
  simp [Builtin.clear_, run_underlying ht, hv, hzc, hst]
/-- a row of raw values, whole -/
def RowR {α : Type} [Rep α] [Tid α] (w : World) (g cap : Nat) (rs : List (Raw α)) : Prop :=
  ∃ cur, w.heap[g]? = some (.cells cur (Tid.tid α) (0, 0)) ∧ cur.size = cap * Rep.sz α ∧ rs.length ≤ cap ∧ cap ≤ maxLen ∧ cur.toList.take (rs.length * Rep.sz α) = (rs.map (·.vs)).flatten
section
variable {α : Type} [Rep α]
theorem raw_lens (rs : List (Raw α)) : ∀ c, c ∈ rs.map (·.vs) → c.length = Rep.sz α := fun c hc => by
  obtain ⟨r, _, rfl⟩ := List.mem_map.1 hc
  exact r.len
theorem raw_flat_len : ∀ (rs : List (Raw α)), (rs.map (·.vs)).flatten.length = rs.length * Rep.sz α
  | [] => by simp
  | r :: rs => by
    rw [List.map_cons, List.flatten_cons, List.length_append, raw_flat_len rs, r.len, List.length_cons, Nat.add_mul]
    omega
theorem raw_flat_at (rs : List (Raw α)) {i j : Nat} (hi : i < rs.length) (hj : j < Rep.sz α) : (rs.map (·.vs)).flatten[i * Rep.sz α + j]? = rs[i].vs[j]? := by
  rw [← List.getElem?_drop, ← flat_drop (raw_lens rs), ← List.map_drop, List.drop_eq_getElem_cons hi, List.map_cons, List.flatten_cons, List.getElem?_append_left (by rw [rs[i].len]; exact hj)]
theorem raw_flat_one {rs : List (Raw α)} : ∀ u, u ∈ (rs.map (·.vs)).flatten → u.oneCell' = true := fun u hu => by
  obtain ⟨c, hc, hu⟩ := List.mem_flatten.1 hu
  obtain ⟨r, _, rfl⟩ := List.mem_map.1 hc
  exact r.one u hu
end
section
variable {α : Type} [Rep α] [Tid α] {w w' : World} {g cap : Nat} {rs : List (Raw α)}
theorem RowR.cell (h : RowR w g cap rs) {j : Nat} {u : Value} (hj : (rs.map (·.vs)).flatten[j]? = some u) : w.cell? ⟨g, j, none⟩ = some u := by
  obtain ⟨cur, hg, _, _, _, ht⟩ := h
  rw [cell_of_row w g j cur _ (0, 0) hg]
  rw [← ht, List.getElem?_take] at hj
  split at hj
  · simpa using hj
  · cases hj
theorem RowR.isSlice (h : RowR w g cap rs) (hz : 0 < Rep.sz α) : IsSlice (fun b => b = g) w (some ⟨g, 0, none⟩) cap rs := by
  have hc := @RowR.cell α _ _ w g cap rs h
  obtain ⟨cur, hg, hcs, hl, hm, ht⟩ := h
  refine ⟨hl, hm, fun i hi => ⟨g, 0, rs[i].vs, rfl, rfl, fun j u hu => ?_, rfl, hz⟩⟩
  have hj : j < Rep.sz α := by rw [← rs[i].len]; exact (List.getElem?_eq_some_iff.1 hu).1
  refine hc ?_
  show (rs.map (·.vs)).flatten[0 + i * Rep.sz α + j]? = some u
  rw [Nat.zero_add, raw_flat_at rs hi hj]
  exact hu
theorem RowR.keep (h : RowR w g cap rs) (hk : w'.heap[g]? = w.heap[g]?) : RowR w' g cap rs := by
  obtain ⟨cur, hg, r⟩ := h
  exact ⟨cur, hk.trans hg, r⟩
theorem RowR.erase (h : RowR w g cap rs) {k : Nat} (hk : k < rs.length) {A : Array Value} (hA : w'.heap[g]? = some (.cells A (Tid.tid α) (0, 0))) (hAs : A.size = cap * Rep.sz α)
    (ht : A.toList.take ((rs.length - 1) * Rep.sz α) = (rs.map (·.vs)).flatten.take (k * Rep.sz α) ++ (rs.map (·.vs)).flatten.drop ((k + 1) * Rep.sz α)) : RowR w' g cap (rs.eraseIdx k) := by
  obtain ⟨cur, hg, hcs, hl, hm, _⟩ := h
  have hlen : (rs.eraseIdx k).length = rs.length - 1 := List.length_eraseIdx_of_lt hk
  refine ⟨A, hA, hAs, by omega, hm, ?_⟩
  rw [hlen, ht, List.eraseIdx_eq_take_drop_succ, List.map_append, List.flatten_append, List.map_take, List.map_drop, flat_take (raw_lens rs), flat_drop (raw_lens rs)]
end
/-- the row that is left -/
theorem del_cells {A cells zs : List Value} {n z k : Nat} (hA : A.take (n * z) = cells) (hl : cells.length = n * z) (hk : k < n) (hzs : zs.length = z) (hAl : n * z ≤ A.length) :
    ((A.take (k * z) ++ cells.drop ((k + 1) * z) ++ A.drop (k * z + (cells.drop ((k + 1) * z)).length)).take ((n - 1) * z) ++ zs ++ (A.take (k * z) ++ cells.drop ((k + 1) * z) ++ A.drop (k * z + (cells.drop ((k + 1) * z)).length)).drop ((n - 1) * z + zs.length)).take ((n - 1) * z) = cells.take (k * z) ++ cells.drop ((k + 1) * z) := by
  have e1 : k * z ≤ n * z := Nat.mul_le_mul_right _ (by omega)
  have e2 : (k + 1) * z ≤ n * z := Nat.mul_le_mul_right _ (by omega)
  have e3 : (k + 1) * z = k * z + z := by rw [Nat.add_mul]; omega
  have e4 : (n - 1) * z = n * z - z := by rw [Nat.sub_mul]; omega
  have e5 : A.take (k * z) = cells.take (k * z) := by
    rw [← hA, List.take_take]
    congr 1
    omega
  have hd : (cells.drop ((k + 1) * z)).length = n * z - (k + 1) * z := by rw [List.length_drop, hl]
  rw [e5]
  have hx : (cells.take (k * z) ++ cells.drop ((k + 1) * z)).length = (n - 1) * z := by
    rw [List.length_append, List.length_take, hd, hl]
    omega
  rw [List.take_left' hx, List.append_assoc, List.take_left' hx]
section
variable {α : Type} [Own α] {w : World}
theorem ownAll_raw {H : List Nat} : ∀ {Fs : List (List Nat)} {cs : List (List Value)} {rs : List (Raw α)}, ownAll w Fs cs rs → cs = rs.map (·.vs) ∧ Fs.flatten = []
  | [], [], [], _ => ⟨rfl, rfl⟩
  | F :: Fs, c :: cs, r :: rs, h => by
    obtain ⟨⟨h1, h2⟩, h3⟩ := h
    obtain ⟨k1, k2⟩ := ownAll_raw (H := H) h3
    exact ⟨by rw [k1, List.map_cons, h2], by rw [List.flatten_cons, h1, k2]; rfl⟩
  | [], _ :: _, _, h => by cases h
  | [], [], _ :: _, h => by cases h
  | _ :: _, [], [], h => by cases h
  | _ :: _, [], _ :: _, h => by cases h
  | _ :: _, _ :: _, [], h => by cases h
end
section
variable {α : Type} [Own α] [Tid α] {w : World}
/-- an own row of raw values is a row -/
theorem FreshX.row {H : Nat → Prop} {B m : Nat} {v : Value} {rs : List (Raw α)} (h : FreshX H B m w [v] rs) :
    (v = .slice none 0 0 ∧ rs = []) ∨ ∃ g cap, v = .slice (some ⟨g, 0, none⟩) rs.length cap ∧ B ≤ g ∧ g < m ∧ ¬ H g ∧ RowR w g cap rs := by
  obtain ⟨F, ⟨v', cs, Fs, hv, hrow, rfl, hall, hz⟩, hn, hb, hh⟩ := h
  simp at hv
  subst hv
  obtain ⟨h1, h2⟩ := ownAll_raw (H := []) hall
  rcases hrow.2 with ⟨hh', hn'⟩ | ⟨g, cap, cur, hh', _, hg, hnc, hcm, hcs, htake⟩
  · exact .inl ⟨hh', List.eq_nil_of_length_eq_zero hn'⟩
  · have hgm := hb g (by rw [hh']; simp [Value.ownBlock])
    exact .inr ⟨g, cap, hh', hgm.1, hgm.2, hh g (by rw [hh']; simp [Value.ownBlock]), cur, hg, hcs, hnc, hcm, by rw [← h1]; exact htake⟩
end
end Go.Vc
namespace Go.Vc
open Go.RowKit
section
variable {P : Program} {ops : Array Oper} {o : Oper} {a : Act} {w : World} {K : Act → World → Prop} {Q : Exit → Act → World → Prop} {E : Prop}
theorem step_append_is (hg : o.guard = none) (d s : Operand) (t t' : TypeId) (ho : o.op = .call { callee := .builtin .append, args := #[d, s], argTypes := #[t, t'] }) {v u : Value} (hd : a.eval d = v) (hs : a.eval s = u) {v' : Value} {w' : World}
    (hr : ∀ ty, (Builtin.append_ #[t, t'] ty #[v, u]).run P w = .ok v' w') (hK : K (a.put o.dst v') w') : if Region.wanted o (yielded ops a.tmps) = true then Oper.wp P o a w K Q else E := by
  have hw : Region.wanted o (yielded ops a.tmps) = true := by simp [Region.wanted, hg]
  rw [if_pos hw]
  unfold Oper.wp execOp
  simp only [ho, resolve, invoke, builtin, Sem.run_bind, Sem.run_pure, Result.andThen_ok, List.map_toArray, List.map_cons, List.map_nil, hd, hs, hr o.type]
  exact hK
variable {rest : List Oper}
theorem wpList_clear_is (hgd : o.guard = none) (d : Operand) (t : TypeId) (ho : o.op = .call { callee := .builtin .clear, args := #[d], argTypes := #[t] }) {v : Value} (hd : a.eval d = v) {v' : Value} {w' : World}
    (hr : ∀ ty, (Builtin.clear_ #[t] ty #[v]).run P w = .ok v' w') (h : wpList P ops Q rest (a.put o.dst v') w') : wpList P ops Q (o :: rest) a w := by
  refine wpList_plain hgd fun K hK => ?_
  unfold Oper.wp execOp
  simp only [ho, resolve, invoke, builtin, Sem.run_bind, Sem.run_pure, Result.andThen_ok, List.map_toArray, List.map_cons, List.map_nil, hd, hr o.type]
  exact hK _ _ h
end
theorem zero_file : (Builtin.zeroCells (Value.agg #[.string ⟨#[]⟩, .slice none 0 0]).cells 1).toList = [.string ⟨#[]⟩, .slice none 0 0] := by
  simp [Builtin.zeroCells, Value.cells]
  apply List.ext_getElem
  · simp
  · intro j h1 h2
    have h3 : j = 0 ∨ j = 1 := by simp at h2; omega
    rcases h3 with rfl | rfl <;> simp
theorem run_cut3 {P : Program} {α : Type} [Rep α] [Tid α] {t : TypeId} {bytes : Nat} (T : SlT P t α bytes) (a : Option Addr) (n cap k h m : Nat) (h1 : k ≤ h) (h2 : h ≤ m) (h3 : m ≤ cap) (w : World) :
    (Instr.slice t (.slice a n cap) (some (.int .i64 (k : Int))) (some (.int .i64 (h : Int))) (some (.int .i64 (m : Int)))).run P w = .ok (.slice (if m = k then a else a.map (fun x => x.add (k * Rep.sz α))) (h - k) (m - k)) w := by
  obtain ⟨i, z, hi, hz0, hsz, hby, hzs⟩ := T.hi
  simp [Instr.slice, Instr.sliceBounds, Instr.sliceBound, run_underlying T.ht, asIntOf, h1, h2, h3, sizeOf, typeInfo, hi, hsz]
end Go.Vc
namespace Go.Proofs.YthddcfbjgcbioaaGreatDoor
open Go.RowKit Go.Vc
open Go.Vc.Rep (rd)
open Go.Vc.Own (own)
set_option maxHeartbeats 4000000 in
set_option maxRecDepth 100000 in
theorem delete_row (g cap k : Nat) (rs : List (Raw File)) (w : World) (h : RowR w g cap rs) (hk : k < rs.length) (hl : rs.length ≤ 1000) :
    Calls Tryz.prog 24 #[.slice (some ⟨g, 0, none⟩) rs.length cap, .int .i64 k, .int .i64 ((k : Int) + 1)] w fun e w' => e = .returned (.slice (some ⟨g, 0, none⟩) (rs.length - 1) cap) ∧ RowR w' g cap (rs.eraseIdx k) ∧ (∀ b, b ≠ g → w'.heap[b]? = w.heap[b]?) ∧ Below g w w' := by
  have hcell := @RowR.cell File _ _ w g cap rs h
  have hE := fun (w' : World) (A : Array Value) => @RowR.erase File _ _ w w' g cap rs h k hk A
  have hfl := raw_flat_len rs
  have hone := fun u (hu : u ∈ (rs.map (·.vs)).flatten) => raw_flat_one u hu
  obtain ⟨cur, hg, hcs, hnc, hcm, htk⟩ := h
  obtain ⟨cells, hcl⟩ : ∃ c, c = (rs.map (·.vs)).flatten := ⟨_, rfl⟩
  rw [← hcl] at hcell hfl hone htk
  rw [← hcl] at hE
  rw [show Rep.sz File = 2 from rfl] at hcs hfl htk hE
  obtain ⟨i, hi, hz0, hsz, hby⟩ := slz_file.hi
  rw [show Rep.sz File = 2 from rfl] at hsz
  have hgl := (Array.getElem?_eq_some_iff.1 hg).1
  obtain ⟨n, hn⟩ : ∃ n, n = rs.length := ⟨_, rfl⟩
  rw [← hn] at hk hl hnc hfl htk hE ⊢
  obtain ⟨news, hnews⟩ : ∃ news, news = cells.drop ((k + 1) * 2) := ⟨_, rfl⟩
  have hnl : news.length = (n - (k + 1)) * 2 := by rw [hnews, List.length_drop, hfl]; omega
  obtain ⟨A, hA⟩ : ∃ A : Addr, A = (if cap = k + 1 then (⟨g, 0, none⟩ : Addr) else ⟨g, (k + 1) * 2, none⟩) := ⟨_, rfl⟩
  have hsrc : ∀ j u, news[j]? = some u → w.drew.cell? (A.add j) = some u := fun j u hj => by
    have hjl := (List.getElem?_eq_some_iff.1 hj).1
    rw [hA, if_neg (by omega), Addr.add_lit]
    rw [hnews, List.getElem?_drop] at hj
    exact hcell hj
  obtain ⟨A1, hA1⟩ : ∃ A1 : Array Value, A1 = (cur.toList.take (k * 2) ++ news ++ cur.toList.drop (k * 2 + news.length)).toArray := ⟨_, rfl⟩
  have hap : ∀ ty, (Builtin.append_ #[23, 23] ty #[.slice (some ⟨g, 0, none⟩) k cap, .slice (some A) (n - (k + 1)) (cap - (k + 1))]).run Tryz.prog w.drew = .ok (.slice (some ⟨g, 0, none⟩) (n - 1) cap) (w.drew.setRow g A1) := fun ty => by
    rw [hA1, show n - 1 = k + (n - (k + 1)) by omega]
    exact run_append_rowZ w.drew _ _ ty i 2 slz_file.ht hi hsz g k cap A (n - (k + 1)) (cap - (k + 1)) cur _ news hg hnl hsrc (by omega) (by rw [hnl, hcs]; omega) (fun u hu => hone u (by rw [hnews] at hu; exact List.mem_of_mem_drop hu))
  have hA1s : A1.size = cap * 2 := by rw [hA1]; simp only [List.size_toArray, List.length_append, List.length_take, List.length_drop, Array.length_toList, hnl, hcs]; omega
  obtain ⟨W1, hW1⟩ : ∃ W1, W1 = w.drew.setRow g A1 := ⟨_, rfl⟩
  have hg1 : W1.heap[g]? = some (.cells A1 (Tid.tid File) (0, 0)) := by rw [hW1]; exact setRow_heap w.drew _ cur A1 _ _ hg
  have ho1 : ∀ b, b ≠ g → W1.heap[b]? = w.heap[b]? := fun b hb => by rw [hW1, setRow_other _ _ _ _ hb]; rfl
  have hB1 : Below g w W1 := by rw [hW1]; exact below_setRow (Below.refl g w).drew (Nat.le_refl _) _
  obtain ⟨zs, hzs⟩ : ∃ zs : List Value, zs = [.string ⟨#[]⟩, .slice none 0 0] := ⟨_, rfl⟩
  have hzl : zs.length = 2 := by rw [hzs]; rfl
  obtain ⟨A2, hA2⟩ : ∃ A2 : Array Value, A2 = (A1.toList.take ((n - 1) * 2) ++ zs ++ A1.toList.drop ((n - 1) * 2 + zs.length)).toArray := ⟨_, rfl⟩
  have hcr : ∀ ty, (Builtin.clear_ #[23] ty #[.slice (some ⟨g, (n - 1) * 2, none⟩) 1 (cap - (n - 1))]).run Tryz.prog W1 = .ok (.tuple #[]) (W1.setRow g A2) := fun ty => by
    rw [hA2]
    exact run_clear_rowZ W1 _ _ ty slz_file.ht (.agg #[.string ⟨#[]⟩, .slice none 0 0]) (fun w => by simp [zeroValue, typeInfo, hi, hz0]) zs (by rw [hzs]; exact zero_file) g _ _ A1 _ hg1 (by rw [hzl, hA1s]; omega) (by rw [hzs]; intro v hv; simp at hv; rcases hv with rfl | rfl <;> rfl)
  have hA2s : A2.size = cap * 2 := by rw [hA2]; simp only [List.size_toArray, List.length_append, List.length_take, List.length_drop, Array.length_toList, hzl, hA1s]; omega
  have hfin : RowR (W1.setRow g A2) g cap (rs.eraseIdx k) := by
    refine hE _ A2 (setRow_heap W1 _ A1 A2 _ _ hg1) hA2s ?_
    rw [hA2, hA1, hnews]
    exact del_cells htk hfl hk hzl (by rw [Array.length_toList, hcs]; omega)
  have hof : ∀ b, b ≠ g → (W1.setRow g A2).heap[b]? = w.heap[b]? := fun b hb => by rw [setRow_other _ _ _ _ hb]; exact ho1 b hb
  have hBf : Below g w (W1.setRow g A2) := below_setRow hB1 (Nat.le_refl _) _
  have c3 : ∀ w' : World, (Instr.slice 23 (.slice (some ⟨g, 0, none⟩) n cap) (some (.int .i64 (k : Int))) (some (.int .i64 ((k : Int) + 1))) (some (.int .i64 (n : Int)))).run Tryz.prog w' = .ok (.slice (if n = k then some ⟨g, 0, none⟩ else some ⟨g, k * 2, none⟩) 1 (n - k)) w' := fun w' => by
    have := run_cut3 slz_file.slt (some ⟨g, 0, none⟩) n cap k (k + 1) n (by omega) (by omega) hnc w'
    rw [show k + 1 - k = 1 by omega] at this
    simpa [addr_add, show Rep.sz File = 2 from rfl] using this
  have c0 : ∀ w' : World, (Instr.slice 23 (.slice (some ⟨g, 0, none⟩) n cap) none (some (.int .i64 (k : Int))) none).run Tryz.prog w' = .ok (.slice (some ⟨g, 0, none⟩) k cap) w' := run_cut0 slz_file.slt (some ⟨g, 0, none⟩) n cap k (by omega)
  have c1 : ∀ w' : World, (Instr.slice 23 (.slice (some ⟨g, 0, none⟩) n cap) (some (.int .i64 ((k : Int) + 1))) none none).run Tryz.prog w' = .ok (.slice (some A) (n - (k + 1)) (cap - (k + 1))) w' := fun w' => by
    have := run_cut slz_file.slt (some ⟨g, 0, none⟩) n cap (k + 1) (by omega) w'
    rw [show ((k + 1 : Nat) : Int) = (k : Int) + 1 by omega] at this
    rw [this, hA]
    unfold cutA
    by_cases hc : cap = k + 1
    · rw [if_pos hc, if_pos hc]
    · rw [if_neg hc, if_neg hc]
      simp only [Option.map_some, addr_add, Nat.zero_add]
      rfl
  have c2 : ∀ w' : World, (Instr.slice 23 (.slice (some ⟨g, 0, none⟩) (n - 1) cap) (some (.int .i64 ((n - 1 : Nat) : Int))) (some (.int .i64 (n : Int))) none).run Tryz.prog w' = .ok (.slice (some ⟨g, (n - 1) * 2, none⟩) 1 (cap - (n - 1))) w' := fun w' => by
    have := run_cut2 slz_file.slt (some ⟨g, 0, none⟩) (n - 1) cap (n - 1) n (by omega) hnc w'
    rw [this]
    unfold cutA
    rw [if_neg (by omega), show n - (n - 1) = 1 by omega]
    simp only [Option.map_some, addr_add, Nat.zero_add]
    rfl
  have e2 : IntKind.i64.wrap ((k : Int) + 1) = (k : Int) + 1 := IntWalk.i64_in _ (by omega)
  have h9 : ((k : Int) == (k : Int) + 1) = false := by rw [beq_eq_false_iff_ne]; omega
  have HR := Lib.hid hfin
  rw [← hW1] at hap
  clear hA hA1 hA2 hA1s hA2s hW1 hg1 ho1 hB1 hE hcell hcl hfl hone htk hcs hnl hnews hsrc hzs hzl hfin hi hz0 hsz hby hg hn
  go_enter Tryz.func24, Tryz.ntmps24
  go_wp2_with fail
  go_region_law (refine step_append_is rfl (.tmp 22) (.tmp 25) 23 23 rfl (v := .slice (some ⟨g, 0, none⟩) k cap) (u := .slice (some A) (n - (k + 1)) (cap - (k + 1))) (by simp [Act.eval, Act.put]) (by simp [Act.eval, Act.put]) hap ?_)
  all_goals
    go_wp2_with (at_builtin; refine wpList_clear_is rfl (.tmp 31) 23 rfl rfl hcr ?_)
    go_ret
    exact ⟨rfl, HR.out, hof, hBf⟩
end Go.Proofs.YthddcfbjgcbioaaGreatDoor
namespace Go.Proofs.YthddcfbjgcbioaaGreatDoor
open Go.RowKit Go.Vc
open Go.Vc.Rep (rd)
open Go.Vc.Own (own)
set_option maxHeartbeats 2000000 in
theorem changesDo1_is (fp p : ByteArray) (tv : Value) (b0 : Nat) (w : World) (q : w.cell? ⟨b0, 1, none⟩ = some (.string p)) {d : Bool} (hd : decide (fp = p) = d) :
    Calls Tryz.prog 22 #[.agg #[.string fp, tv], .pointer (some ⟨b0, 0, none⟩)] w fun e w' => e = .returned (.bool d) ∧ Below w.heap.size w w' := by
  obtain ⟨wc, hwc⟩ : ∃ wc, wc = w.alloc (.cells #[.string fp, tv] 36) := ⟨_, rfl⟩
  obtain ⟨hB1, hsc, hq1⟩ := boxed (vs := [.string fp, tv]) hwc
  have p0 := hq1 0 _ rfl
  have q1 := keepc q hB1
  rw [hwc] at p0 q1 hB1
  clear hq1 hwc hsc
  go_enter Tryz.func22, Tryz.ntmps22
  go_wp2
  go_ret
  exact ⟨rfl, hB1⟩
set_option maxHeartbeats 4000000 in
set_option maxRecDepth 100000 in
theorem indexFile_is {S : Nat → Prop} (v : Value) (o : List File) (p : ByteArray) (b0 : Nat) (w : World) (hv : rd S w [v] o) (q : w.cell? ⟨b0, 1, none⟩ = some (.string p)) (hl : o.length ≤ 1000) :
    Calls Tryz.prog 21 #[v, .func (.func 22) #[] #[.pointer (some ⟨b0, 0, none⟩)]] w fun e w' => ((∃ (j : Nat) (h : j < o.length), e = .returned (.int .i64 j) ∧ o[j].path = p ∧ getT o p = some o[j].text) ∨ (e = .returned (.int .i64 (-1)) ∧ getT o p = none)) ∧ Below w.heap.size w w' := by
  obtain ⟨a, cap, rfl, hs⟩ := rd_slice_elim (Rep.lt hv)
  have hle := hs.le
  go_enter Tryz.func21, Tryz.ntmps21
  go_wp2
  go_loopw [8] (fun i wr => (∃ k : Nat, k ≤ o.length ∧ i = .int .i64 k ∧ Hid (getT o p = getT (o.drop k) p)) ∧ Below w.heap.size w wr) (fun i _ => o.length - (intOf i).toNat)
  case atStart => exact ⟨⟨0, by omega, rfl, rfl⟩, Below.refl _ _⟩
  case round =>
    obtain ⟨⟨k, hk, rfl, HA⟩, hb⟩ := hrel
    have hsz := hb.size
    by_cases hlt : k < o.length
    · obtain ⟨g, off, a1, c1, rfl, hc1, hc2, hz1, hft⟩ := (hs.keep hb).file hlt
      have hcb := keepc q hb
      by_cases he : o[k].path = p
      · have HN := Lib.hid (getT_hit HA.out hlt he)
        have HE := Lib.hid he
        have hd : decide (o[k].path = p) = true := decide_eq_true he
        clear he
        go_wp2_with fail
        refine (changesDo1_is o[k].path p _ b0 _ hcb hd).mono ?_
        rintro e w1 ⟨rfl, hb1⟩
        go_wp2
        go_ret
        exact ⟨.inl ⟨k, hlt, rfl, HE.out, HN.out⟩, hb.trans (hb1.mono hsz)⟩
      · have HN := Lib.hid (getT_next HA.out hlt he)
        have hd : decide (o[k].path = p) = false := decide_eq_false he
        clear he
        go_wp2_with fail
        refine (changesDo1_is o[k].path p _ b0 _ hcb hd).mono ?_
        rintro e w1 ⟨rfl, hb1⟩
        go_wp2
        go_roundw
        case rel => exact ⟨⟨k + 1, by omega, by go_num, HN.out⟩, hb.trans (hb1.mono hsz)⟩
        case measure => simp [intOf] <;> omega
    · have HN := Lib.hid (getT_end HA.out hlt)
      go_wp2
      go_ret
      exact ⟨.inr ⟨rfl, HN.out⟩, hb⟩
end Go.Proofs.YthddcfbjgcbioaaGreatDoor
namespace Go.Vc
section
variable {t o : List File} {list : List Change} {k : Nat} {M : Option (List File)}
theorem take_add (H : M = takeC t (list.drop k) o) (h : k < list.length) (h1 : list[k].kind = 1) : M = takeC t (list.drop (k + 1)) o := by
  rw [H, drop_cons list k h, takeC, if_pos h1]
theorem take_gone (H : M = takeC t (list.drop k) o) (h : k < list.length) (h1 : ¬ list[k].kind = 1) (h2 : getT t list[k].path = none) : M = none := by
  rw [H, drop_cons list k h, takeC, if_neg h1, h2]
theorem take_other (H : M = takeC t (list.drop k) o) (h : k < list.length) (h1 : list[k].kind = 2) {x : List ByteArray} (h2 : getT t list[k].path = some x) (h3 : ¬ x = list[k].text) : M = none := by
  rw [H, drop_cons list k h, takeC, if_neg (by rw [h1]; decide), h2]
  exact if_pos ⟨h1, h3⟩
theorem take_out (H : M = takeC t (list.drop k) o) (h : k < list.length) (h1 : ¬ list[k].kind = 1) {x : List ByteArray} (h2 : getT t list[k].path = some x) (h3 : list[k].kind = 2 → x = list[k].text) : M = takeC t (list.drop (k + 1)) (o.filter fun g => !decide (g.path = list[k].path)) := by
  rw [H, drop_cons list k h, takeC, if_neg h1, h2]
  exact if_neg fun e => e.2 (h3 e.1)
theorem take_end (H : M = takeC t (list.drop k) o) (h : ¬ k < list.length) : M = some o := by rw [H, drop_nil list k h, takeC]
theorem put_skip (H : M = putC t (list.drop k) o) (h : k < list.length) (h1 : list[k].kind = 2) : M = putC t (list.drop (k + 1)) o := by
  rw [H, drop_cons list k h, putC, if_pos h1]
theorem put_bad (H : M = putC t (list.drop k) o) (h : k < list.length) (h1 : ¬ list[k].kind = 2) (h2 : fileC t list[k] = none) : M = none := by
  rw [H, drop_cons list k h, putC, if_neg h1, h2]
theorem put_held (H : M = putC t (list.drop k) o) (h : k < list.length) (h1 : ¬ list[k].kind = 2) {f : File} (h2 : fileC t list[k] = some f) (h3 : ¬ getT o f.path = none) : M = none := by
  rw [H, drop_cons list k h, putC, if_neg h1, h2]
  exact if_pos (by cases hg : getT o f.path with | none => exact absurd hg h3 | some _ => rfl)
theorem put_in (H : M = putC t (list.drop k) o) (h : k < list.length) (h1 : ¬ list[k].kind = 2) {f : File} (h2 : fileC t list[k] = some f) (h3 : getT o f.path = none) : M = putC t (list.drop (k + 1)) (setT o f) := by
  rw [H, drop_cons list k h, putC, if_neg h1, h2]
  exact if_neg (by rw [h3]; simp)
theorem put_end (H : M = putC t (list.drop k) o) (h : ¬ k < list.length) : M = some o := by rw [H, drop_nil list k h, putC]
end
/-- what a change takes up -/
def takenF (t : List File) (c : Change) : File := if c.kind = 1 then ⟨c.path, c.text⟩ else ⟨c.path, (getT t c.path).getD []⟩
theorem file_move {t : List File} {c : Change} (h : c.kind = 4) : fileC t c = some ⟨c.dst, (takenF t c).text⟩ := by
  unfold fileC takenF
  rw [if_neg (by rw [h]; decide), if_pos h, if_neg (by rw [h]; decide)]
theorem file_edit {t : List File} {c : Change} (h : c.kind = 3) {x : List ByteArray} (hp : pDo (takenF t c).text c.patch = (x, true)) : fileC t c = some ⟨c.path, x⟩ := by
  unfold takenF at hp
  rw [if_neg (by rw [h]; decide)] at hp
  unfold fileC
  simp only at hp
  rw [if_pos h, hp]
  rfl
theorem file_edit_bad {t : List File} {c : Change} (h : c.kind = 3) (hp : (pDo (takenF t c).text c.patch).2 = false) : fileC t c = none := by
  unfold takenF at hp
  rw [if_neg (by rw [h]; decide)] at hp
  unfold fileC
  simp only at hp
  rw [if_pos h, hp]
  rfl
theorem file_add {t : List File} {c : Change} (h : c.kind = 1) : fileC t c = some ⟨c.path, (takenF t c).text⟩ := by
  unfold fileC takenF
  rw [if_neg (by rw [h]; decide), if_neg (by rw [h]; decide), if_pos h]
theorem taken_path (t : List File) (c : Change) : (takenF t c).path = c.path := by unfold takenF; split <;> rfl
theorem put_free {t : List File} (ha : AscF t) (f : File) : decide ((setT t f).length = t.length + 1) = (getT t f.path).isNone := by
  cases hg : getT t f.path with
  | none =>
    obtain ⟨k, hk, _, h⟩ := put_is ha f
    rcases h with ⟨h1, h2, _⟩ | ⟨_, _, h3⟩
    · have := getT_some (List.getElem_mem h1)
      rw [h2, hg] at this
      cases this
    · exact decide_eq_true h3
  | some x =>
    refine decide_eq_false fun h => ?_
    rw [getT_none (set_free ha h)] at hg
    cases hg
theorem asc_distW {t : List File} (h : AscF t) : DistF t := h.imp fun {f g} h e => by rw [e, lessB_irr] at h; cases h
theorem erase_filter : ∀ {o : List File} {j : Nat} (h : j < o.length), DistF o → o.eraseIdx j = o.filter fun g => !decide (g.path = o[j].path)
  | f :: r, 0, _, hd => by
    have h1 := (List.pairwise_cons.1 hd).1
    show r = _
    rw [List.filter_cons, if_neg (by simp)]
    exact (List.filter_eq_self.2 fun g hg => by simpa using fun e => h1 g hg e.symm).symm
  | f :: r, j + 1, h, hd => by
    have h1 := (List.pairwise_cons.1 hd).1
    have hj : j < r.length := by simpa using h
    have := erase_filter hj (List.Pairwise.of_cons hd)
    show f :: r.eraseIdx j = _
    rw [List.filter_cons, if_pos (by simpa using h1 _ (List.getElem_mem hj)), this]
    rfl
  | [], _, h, _ => absurd h (by simp)
theorem getT_without {o : List File} {p q : ByteArray} (h : ¬ p = q) : getT (o.filter fun g => !decide (g.path = q)) p = getT o p :=
  getT_filter fun g _ e => by rw [e]; simp [h]
/-- the paths ahead are where they were -/
theorem ahead_next {t o : List File} {list : List Change} {k : Nat} (hN : (pathsC list).Nodup) (h : k < list.length) (H : ∀ c, c ∈ list.drop k → getT o c.path = getT t c.path) :
    ∀ c, c ∈ list.drop (k + 1) → getT (o.filter fun g => !decide (g.path = list[k].path)) c.path = getT t c.path := fun c hc => by
  have hne : ¬ c.path = list[k].path := fun e => by
    have hp : (pathsC (list.drop k)).Nodup := by
      have e1 : pathsC list = pathsC (list.take k) ++ pathsC (list.drop k) := by
        rw [← pathsC_app', List.take_append_drop]
      rw [e1] at hN
      exact (List.nodup_append.1 hN).2.1
    rw [drop_cons list k h, pathsC] at hp
    exact (List.nodup_append.1 hp).2.2 _ (pp_path list[k]) _ (mem_pathsC.2 ⟨c, hc, pp_path c⟩) e.symm
  rw [getT_without hne]
  exact H c (by rw [drop_cons list k h]; exact List.mem_cons_of_mem _ hc)
where pathsC_app' : ∀ {l r : List Change}, pathsC (l ++ r) = pathsC l ++ pathsC r
  | [], r => rfl
  | c :: l, r => by rw [List.cons_append, pathsC, pathsC, pathsC_app', List.append_assoc]
theorem ahead_same {t o : List File} {list : List Change} {k : Nat} (h : k < list.length) (H : ∀ c, c ∈ list.drop k → getT o c.path = getT t c.path) : ∀ c, c ∈ list.drop (k + 1) → getT o c.path = getT t c.path := fun c hc => H c (by rw [drop_cons list k h]; exact List.mem_cons_of_mem _ hc)
theorem asc_without {o : List File} (h : AscF o) (P : File → Bool) : AscF (o.filter P) := List.Pairwise.filter _ h
/-- how it ends -/
theorem changesDo_bad {t : List File} {list : List Change} (h : treeB t = false ∨ changesB list = false) : changesDo t list = ([], false) := by
  unfold changesDo
  rw [if_neg (by rintro ⟨h1, h2⟩; rcases h with h | h <;> simp_all)]
theorem changesDo_take {t : List File} {list : List Change} (h1 : treeB t = true) (h2 : changesB list = true) (h : takeC t list t = none) : changesDo t list = ([], false) := by
  unfold changesDo doC
  rw [if_pos ⟨h1, h2⟩, h]
theorem changesDo_put {t o : List File} {list : List Change} (h1 : treeB t = true) (h2 : changesB list = true) (h : takeC t list t = some o) (h3 : putC t list o = none) : changesDo t list = ([], false) := by
  unfold changesDo doC
  rw [if_pos ⟨h1, h2⟩, h]
  simp only
  rw [h3]
theorem changesDo_end {t o x : List File} {list : List Change} (h1 : treeB t = true) (h2 : changesB list = true) (h : takeC t list t = some o) (h3 : putC t list o = some x) : changesDo t list = if treeB x = true then (x, true) else ([], false) := by
  unfold changesDo doC
  rw [if_pos ⟨h1, h2⟩, h]
  simp only
  rw [h3]
  simp only
  by_cases hx : treeB x = true
  · rw [if_pos hx, if_pos hx]
  · rw [if_neg hx, if_neg hx]
end Go.Vc
namespace Go.Vc
theorem take_sub {t : List File} : ∀ {list : List Change} {out r : List File}, takeC t list out = some r → ∀ f, f ∈ r → f ∈ out
  | [], out, r, h, f, hf => by
    rw [takeC] at h
    rw [Option.some.inj h]; exact hf
  | c :: l, out, r, h, f, hf => by
    rw [takeC] at h
    split at h
    · exact take_sub h f hf
    · split at h
      · cases h
      · split at h
        · cases h
        · exact (List.mem_filter.1 (take_sub h f hf)).1
/-- paths that are P, texts that are short -/
def GoodF (P : ByteArray → Prop) (o : List File) : Prop := ∀ f, f ∈ o → P f.path ∧ f.text.length ≤ 10
theorem good_set {P : ByteArray → Prop} {o : List File} (hA : AscF o) (h : GoodF P o) {f : File} (h1 : P f.path) (h2 : f.text.length ≤ 10) : GoodF P (setT o f) := fun g hg => by
  rcases (mem_set hA f g).1 hg with rfl | ⟨hg, _⟩
  · exact ⟨h1, h2⟩
  · exact h g hg
theorem changeB_text {c : Change} (h : changeB c = true) (h1 : c.kind = 1) : c.text.length ≤ 10 := by
  unfold changeB at h
  rw [if_pos (.inl h1)] at h
  simp only [Bool.and_eq_true] at h
  exact text_len10 h.2.1
theorem taken_len {t : List File} (hx : ∀ f, f ∈ t → f.text.length ≤ 10) {c : Change} (hc : changeB c = true) : (takenF t c).text.length ≤ 10 := by
  unfold takenF
  split
  · rename_i h
    exact changeB_text hc h
  · cases hg : getT t c.path with
    | none => simp
    | some x =>
      obtain ⟨f, hf, _, h2⟩ := getT_mem hg
      have := hx f hf
      rw [h2] at this
      exact this
end Go.Vc
namespace Go.Vc
/-- no change names a path -/
def freeC (list : List Change) (p : ByteArray) : Bool := list.all fun c => !decide (c.path = p) && !decide (c.dst = p)
/-- one change behind these is ok -/
def okC (l : List Change) (c : Change) : Bool := changeB c && (freeC l c.path && (decide (c.dst = ⟨#[]⟩) || freeC l c.dst))
/-- each change behind those ahead of it -/
def okAll : List Change → List Change → Bool
  | _, [] => true
  | l, c :: r => okC l c && okAll (l ++ [c]) r
theorem change_path {c : Change} (h : changeB c = true) : ¬ c.path = ⟨#[]⟩ := fun e => by
  have := changeB_path h
  rw [e] at this
  exact absurd this (by decide)
theorem change_dst {c : Change} (h : changeB c = true) : (c.kind = 4 ∧ ¬ c.dst = ⟨#[]⟩) ∨ (¬ c.kind = 4 ∧ c.dst = ⟨#[]⟩) := by
  by_cases h4 : c.kind = 4
  · obtain ⟨_, hp, _⟩ := changeB_move h h4
    refine .inl ⟨h4, fun e => ?_⟩
    rw [e] at hp
    exact absurd hp (by decide)
  · refine .inr ⟨h4, ?_⟩
    unfold changeB at h
    split at h
    · simp only [Bool.and_eq_true, decide_eq_true_eq] at h; exact h.2.2.1
    · split at h
      · simp only [Bool.and_eq_true, decide_eq_true_eq] at h; exact h.2.2.1
      · first | cases h | (rw [if_neg h4] at h; cases h)
theorem free_iff {l : List Change} (hl : ∀ c, c ∈ l → changeB c = true) {p : ByteArray} (hp : ¬ p = ⟨#[]⟩) : freeC l p = true ↔ p ∉ pathsC l := by
  unfold freeC
  rw [List.all_eq_true]
  constructor
  · intro h hm
    obtain ⟨c, hc, hpc⟩ := mem_pathsC.1 hm
    have := h c hc
    simp only [Bool.and_eq_true, Bool.not_eq_true', decide_eq_false_iff_not] at this
    rcases pp_cases hpc with e | ⟨_, e⟩
    · exact this.1 e.symm
    · exact this.2 e.symm
  · intro h c hc
    simp only [Bool.and_eq_true, Bool.not_eq_true', decide_eq_false_iff_not]
    refine ⟨fun e => h (mem_pathsC.2 ⟨c, hc, by rw [← e]; exact pp_path c⟩), fun e => ?_⟩
    rcases change_dst (hl c hc) with ⟨h4, _⟩ | ⟨_, h5⟩
    · exact h (mem_pathsC.2 ⟨c, hc, by rw [← e]; exact pp_dst h4⟩)
    · exact hp (e.symm.trans h5)
theorem pathsC_snoc (l : List Change) (c : Change) : pathsC (l ++ [c]) = pathsC l ++ ppC c := by
  induction l with
  | nil => show ppC c ++ [] = [] ++ ppC c; simp
  | cons d l ih => rw [List.cons_append, pathsC, pathsC, ih, List.append_assoc]
theorem okAll_iff : ∀ (r l : List Change), (∀ c, c ∈ l → changeB c = true) → (pathsC l).Nodup → (okAll l r = true ↔ (∀ c, c ∈ r → changeB c = true) ∧ (pathsC (l ++ r)).Nodup)
  | [], l, hl, hn => by
    rw [okAll, List.append_nil]
    exact ⟨fun _ => ⟨fun c hc => (by cases hc), hn⟩, fun _ => rfl⟩
  | c :: r, l, hl, hn => by
    have e : l ++ c :: r = (l ++ [c]) ++ r := by simp
    rw [okAll, Bool.and_eq_true]
    by_cases hc : changeB c = true
    · have hl' : ∀ d, d ∈ l ++ [c] → changeB d = true := fun d hd => by
        rcases List.mem_append.1 hd with hd | hd
        · exact hl d hd
        · rw [List.mem_singleton.1 hd]; exact hc
      have hok : okC l c = true ↔ (pathsC (l ++ [c])).Nodup := by
        rw [pathsC_snoc, List.nodup_append]
        unfold okC
        rw [hc, Bool.true_and, Bool.and_eq_true, Bool.or_eq_true, decide_eq_true_eq, free_iff hl (change_path hc)]
        rcases change_dst hc with ⟨h4, h5⟩ | ⟨h4, h5⟩
        · have hpp : ppC c = [c.path, c.dst] := by unfold ppC; rw [if_pos h4]
          have hne := (changeB_move hc h4).1
          rw [free_iff hl h5, hpp]
          constructor
          · rintro ⟨h1, h2⟩
            refine ⟨hn, by simp; exact fun e => hne e.symm, fun x hx y hy e => ?_⟩
            subst e
            rcases List.mem_cons.1 hy with rfl | hy
            · exact h1 hx
            · rw [List.mem_singleton.1 hy] at hx
              exact (h2.resolve_left h5) hx
          · rintro ⟨_, _, h3⟩
            exact ⟨fun hm => h3 _ hm _ (List.mem_cons_self ..) rfl, .inr fun hm => h3 _ hm _ (List.mem_cons_of_mem _ (List.mem_singleton.2 rfl)) rfl⟩
        · have hpp : ppC c = [c.path] := by unfold ppC; rw [if_neg h4]
          rw [hpp]
          constructor
          · rintro ⟨h1, _⟩
            refine ⟨hn, by simp, fun x hx y hy e => ?_⟩
            rw [List.mem_singleton.1 hy] at e
            exact h1 (e ▸ hx)
          · rintro ⟨_, _, h3⟩
            exact ⟨fun hm => h3 _ hm _ (List.mem_singleton.2 rfl) rfl, .inl h5⟩
      constructor
      · rintro ⟨h1, h2⟩
        obtain ⟨k1, k2⟩ := (okAll_iff r (l ++ [c]) hl' (hok.1 h1)).1 h2
        refine ⟨fun d hd => ?_, by rw [e]; exact k2⟩
        rcases List.mem_cons.1 hd with rfl | hd
        · exact hc
        · exact k1 d hd
      · rintro ⟨h1, h2⟩
        rw [e] at h2
        have hn' : (pathsC (l ++ [c])).Nodup := by
          have e2 : pathsC ((l ++ [c]) ++ r) = pathsC (l ++ [c]) ++ pathsC r := pathsC_appP _ _
          rw [e2] at h2
          exact (List.nodup_append.1 h2).1
        exact ⟨hok.2 hn', (okAll_iff r (l ++ [c]) hl' hn').2 ⟨fun d hd => h1 d (List.mem_cons_of_mem _ hd), h2⟩⟩
    · have hf : okC l c = false := by unfold okC; cases h : changeB c with | true => exact absurd h hc | false => rfl
      constructor
      · rintro ⟨h1, _⟩
        rw [hf] at h1; cases h1
      · rintro ⟨h1, _⟩
        exact absurd (h1 c (List.mem_cons_self ..)) hc
where pathsC_appP : ∀ (l r : List Change), pathsC (l ++ r) = pathsC l ++ pathsC r
  | [], r => rfl
  | c :: l, r => by rw [List.cons_append, pathsC, pathsC, pathsC_appP l r, List.append_assoc]
theorem okAll_changes (list : List Change) : (okAll [] list && decide (list.length ≤ 16)) = changesB list := by
  have h := okAll_iff list [] (fun c hc => by cases hc) List.nodup_nil
  rw [List.nil_append] at h
  cases hb : changesB list with
  | true =>
    obtain ⟨h1, h2, h3⟩ := (changesB_iff list).1 hb
    rw [h.2 ⟨h2, h3⟩, decide_eq_true h1]; rfl
  | false =>
    cases ho : okAll [] list with
    | false => rfl
    | true =>
      obtain ⟨h2, h3⟩ := h.1 ho
      rw [Bool.true_and]
      refine decide_eq_false fun h1 => ?_
      rw [(changesB_iff list).2 ⟨h1, h2, h3⟩] at hb
      cases hb
end Go.Vc
namespace Go.Vc
def putC2 (ps : List ByteArray) (c : Change) : List ByteArray := if c.dst = ⟨#[]⟩ then putP ps c.path else putP (putP ps c.path) c.dst
def foldC (ps : List ByteArray) (l : List Change) : List ByteArray := l.foldl putC2 ps
theorem putC2_one {ps : List ByteArray} {c : Change} (h : c.dst = ⟨#[]⟩) : putC2 ps c = putP ps c.path := if_pos h
theorem putC2_two {ps : List ByteArray} {c : Change} (h : ¬ c.dst = ⟨#[]⟩) : putC2 ps c = putP (putP ps c.path) c.dst := if_neg h
theorem foldC_next {P ps : List ByteArray} {l : List Change} {k : Nat} (H : P = foldC ps (l.drop k)) (hk : k < l.length) : P = foldC (putC2 ps l[k]) (l.drop (k + 1)) := by
  rw [H, drop_cons l k hk, foldC, List.foldl_cons]; rfl
theorem foldC_end {P ps : List ByteArray} {l : List Change} {k : Nat} (H : P = foldC ps (l.drop k)) (hk : ¬ k < l.length) : P = ps := by
  rw [H, drop_nil l k hk]; rfl
theorem putC2_len (ps : List ByteArray) (c : Change) : (putC2 ps c).length ≤ ps.length + 2 := by
  unfold putC2
  split
  · have := putP_len ps c.path; omega
  · have := putP_len ps c.path; have := putP_len (putP ps c.path) c.dst; omega
theorem mem_putC2 {ps : List ByteArray} {c : Change} (h : changeB c = true) {q : ByteArray} : q ∈ putC2 ps c ↔ q ∈ ppC c ∨ q ∈ ps := by
  rcases change_dst h with ⟨h4, h5⟩ | ⟨h4, h5⟩
  · rw [putC2_two h5, mem_putP, mem_putP]
    unfold ppC
    rw [if_pos h4, List.mem_cons, List.mem_singleton]
    constructor
    · rintro (e | e | e)
      · exact .inl (.inr e)
      · exact .inl (.inl e)
      · exact .inr e
    · rintro ((e | e) | e)
      · exact .inr (.inl e)
      · exact .inl e
      · exact .inr (.inr e)
  · rw [putC2_one h5, mem_putP]
    unfold ppC
    rw [if_neg h4, List.mem_singleton]
theorem mem_foldC {q : ByteArray} : ∀ {l : List Change} {ps : List ByteArray}, (∀ c, c ∈ l → changeB c = true) → (q ∈ foldC ps l ↔ q ∈ ps ∨ q ∈ pathsC l)
  | [], ps, _ => by simp [foldC, pathsC]
  | c :: l, ps, h => by
    have : foldC ps (c :: l) = foldC (putC2 ps c) l := rfl
    rw [this, mem_foldC (fun d hd => h d (List.mem_cons_of_mem _ hd)), mem_putC2 (h c (List.mem_cons_self ..)), pathsC, List.mem_append]
    constructor
    · rintro ((e | e) | e)
      · exact .inr (.inl e)
      · exact .inl e
      · exact .inr (.inr e)
    · rintro (e | e | e)
      · exact .inl (.inr e)
      · exact .inl (.inl e)
      · exact .inr e
theorem asc_foldC : ∀ {l : List Change} {ps : List ByteArray}, AscP ps → AscP (foldC ps l)
  | [], _, h => h
  | c :: l, ps, h => asc_foldC (l := l) (by
    unfold putC2
    split
    · exact asc_putP h
    · exact asc_putP (asc_putP h))
theorem asc_sort {xs : List ByteArray} (h : xs.Nodup) : AscP (sortS xs) := by
  have h1 : (strsL xs).Nodup := by
    unfold strsL List.Nodup
    rw [List.pairwise_map]
    exact List.Pairwise.imp (fun {a b} h e => h (by have := congrArg ofBytes e; rwa [of_bytes, of_bytes] at this)) h
  have h2 : (sortU (strsL xs)).Nodup := (sortU_perm _).nodup_iff.2 h1
  unfold AscP sortS ofStrs
  rw [List.pairwise_map]
  refine List.Pairwise.imp ?_ ((sortU_asc (strsL xs)).and h2)
  rintro a b ⟨h3, h4⟩
  refine (less_lt _ _).2 ?_
  rw [bytes_of, bytes_of]
  exact Classical.byContradiction fun hn => h4 (List.le_antisymm h3 (List.not_lt.1 hn))
/-- the paths that the reference tells are those that the program tells -/
theorem foldC_paths {l : List Change} (h : changesB l = true) : foldC [] l = sortS (pathsC l) := by
  obtain ⟨_, h2, h3⟩ := (changesB_iff l).1 h
  exact ascP_ext (asc_foldC List.Pairwise.nil) (asc_sort h3) fun q => by rw [mem_foldC h2, mem_sortS]; simp
/-- a path that a tree has after changes, or had before -/
theorem paths_law {t x : List File} {l : List Change} (h : changesDo t l = (x, true)) :
    (∀ i (hi : i < t.length), hasS t[i].path (sortS (pathsC l)) = false → getT x t[i].path = some t[i].text) ∧
    (∀ i (hi : i < x.length), hasS x[i].path (sortS (pathsC l)) = false → ∃ y, getT t x[i].path = some y) := by
  obtain ⟨h1, h2, h3, h4, h5⟩ := good_do h
  have key : ∀ p, hasS p (sortS (pathsC l)) = false → getT x p = getT t p := fun p hp => h5 p fun hm => by
    have : hasS p (sortS (pathsC l)) = true := by
      unfold hasS
      rw [List.any_eq_true]
      exact ⟨p, mem_sortS.2 hm, by simp⟩
    rw [this] at hp; cases hp
  refine ⟨fun i hi hp => ?_, fun i hi hp => ?_⟩
  · rw [key _ hp]; exact getT_of (dist_tree h1) (List.getElem_mem hi)
  · rw [← key _ hp]; exact ⟨_, getT_of (dist_tree h2) (List.getElem_mem hi)⟩
theorem asc_next {ps : List ByteArray} (h : AscP ps) {i : Nat} (h0 : 0 < i) (hi : i < ps.length) : lessB (ps[i - 1]'(by omega)) ps[i] = true := List.pairwise_iff_getElem.1 h (i - 1) i (by omega) hi (by omega)
/-- whose paths are short -/
theorem do_short {P : ByteArray → Prop} {t x : List File} {l : List Change} (h : changesDo t l = (x, true)) (hP : ∀ f, f ∈ t → P f.path) (hS : ∀ c, c ∈ l → P c.path ∧ P c.dst) : ∀ f, f ∈ x → P f.path := fun f hf => by
  obtain ⟨h1, h2, h3, h4, h5⟩ := good_do h
  have hx := getT_of (dist_tree h2) hf
  by_cases hm : f.path ∈ pathsC l
  · obtain ⟨c, hc, hp⟩ := mem_pathsC.1 hm
    rcases pp_cases hp with e | ⟨_, e⟩
    · rw [e]; exact (hS c hc).1
    · rw [e]; exact (hS c hc).2
  · rw [h5 _ hm] at hx
    obtain ⟨g, hg, e⟩ := getT_in hx
    have := hP g hg
    rw [e] at this
    exact this
theorem back_short {P : ByteArray → Prop} {l : List Change} (h0 : P ⟨#[]⟩) (hS : ∀ c, c ∈ l → P c.path ∧ P c.dst) : ∀ c, c ∈ changesBack l → P c.path ∧ P c.dst := fun c hc => by
  unfold changesBack at hc
  split at hc
  · obtain ⟨d, hd, rfl⟩ := List.mem_map.1 hc
    have := hS d hd
    unfold backC
    split
    · exact ⟨this.1, h0⟩
    · split
      · exact ⟨this.1, h0⟩
      · split
        · exact ⟨this.1, h0⟩
        · exact ⟨this.2, this.1⟩
  · cases hc
theorem less_anti {a b : ByteArray} (h : lessB a b = true) : lessB b a = false := by
  cases hb : lessB b a with
  | false => rfl
  | true => exact absurd (List.lt_trans ((less_lt _ _).1 h) ((less_lt _ _).1 hb)) (List.lt_irrefl _)
end Go.Vc
namespace Go.Vc
theorem take_len {t : List File} : ∀ {l : List Change} {out r : List File}, takeC t l out = some r → r.length ≤ out.length
  | [], out, r, h => by rw [takeC] at h; rw [Option.some.inj h]; exact Nat.le_refl _
  | c :: l, out, r, h => by
    rw [takeC] at h
    split at h
    · exact take_len h
    · split at h
      · cases h
      · split at h
        · cases h
        · exact Nat.le_trans (take_len h) (List.length_filter_le _ _)
theorem get_text {t : List File} (h : treeB t = true) (p : ByteArray) : textB ((getT t p).getD []) = true := by
  cases hg : getT t p with
  | none => show textB [] = true; decide
  | some x => exact (tree_at h hg).2
theorem fileC_4 {t : List File} {c : Change} (h : c.kind = 4) : fileC t c = some ⟨c.dst, (getT t c.path).getD []⟩ := by
  unfold fileC
  rw [if_neg (by rw [h]; decide), if_pos h]
theorem fileC_1 {t : List File} {c : Change} (h : c.kind = 1) : fileC t c = some ⟨c.path, c.text⟩ := by
  unfold fileC
  rw [if_neg (by rw [h]; decide), if_neg (by rw [h]; decide)]
theorem fileC_3 {t : List File} {c : Change} (h : c.kind = 3) {x : List ByteArray} (hp : pDo ((getT t c.path).getD []) c.patch = (x, true)) : fileC t c = some ⟨c.path, x⟩ := by
  unfold fileC
  rw [if_pos h, hp]
  rfl
theorem fileC_3b {t : List File} {c : Change} (h : c.kind = 3) (hp : (pDo ((getT t c.path).getD []) c.patch).2 = false) : fileC t c = none := by
  unfold fileC
  rw [if_pos h, hp]
  rfl
theorem changeB_patch {c : Change} (h : changeB c = true) (h3 : c.kind = 3) : patchB c.patch = true := by
  unfold changeB at h
  rw [if_neg (by rw [h3]; decide), if_pos h3] at h
  simp only [Bool.and_eq_true] at h
  exact h.2.2.2.2
theorem changesDo_not {t o x : List File} {list : List Change} (h1 : treeB t = true) (h2 : changesB list = true) (h : takeC t list t = some o) (h3 : putC t list o = some x) (hx : treeB x = false) : changesDo t list = ([], false) := by
  rw [changesDo_end h1 h2 h h3, if_neg (by rw [hx]; simp)]
theorem changesDo_yes {t o x : List File} {list : List Change} (h1 : treeB t = true) (h2 : changesB list = true) (h : takeC t list t = some o) (h3 : putC t list o = some x) (hx : treeB x = true) : changesDo t list = (x, true) := by
  rw [changesDo_end h1 h2 h h3, if_pos hx]
theorem backF_put {D ol d : List Hunk} {k : Nat} {acc acc' : Int} (H : D = ol ++ backF (d.drop k) acc) (hk : k < d.length) (ha : acc' = acc + d[k].more.length - d[k].less.length) : D = (ol ++ [⟨d[k].at_ + acc, d[k].more, d[k].less⟩]) ++ backF (d.drop (k + 1)) acc' := by
  rw [H, drop_cons d k hk, backF, ha]; simp
theorem backF_end {D ol d : List Hunk} {k : Nat} {acc : Int} (H : D = ol ++ backF (d.drop k) acc) (hk : ¬ k < d.length) : D = ol := by
  rw [H, drop_nil d k hk, backF, List.append_nil]
theorem backM_next {D ol l : List Change} {k : Nat} (H : D = ol ++ (l.drop k).map backC) (hk : k < l.length) : D = (ol ++ [backC l[k]]) ++ (l.drop (k + 1)).map backC := by
  rw [H, drop_cons l k hk, List.map_cons]; simp
theorem backM_end {D ol l : List Change} {k : Nat} (H : D = ol ++ (l.drop k).map backC) (hk : ¬ k < l.length) : D = ol := by
  rw [H, drop_nil l k hk]; simp
end Go.Vc
