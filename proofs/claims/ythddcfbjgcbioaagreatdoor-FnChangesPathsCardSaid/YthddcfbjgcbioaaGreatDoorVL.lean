/-
  What an append leaves as it was. No program is in sight here. / Walks: paths. / Walks: whether a path is below another one.
-/
import Derived.Test.YthddcfbjgcbioaaGreatDoorVA
import Derived.Test.YthddcfbjgcbioaaGreatDoorSplit
import Derived.Test.YthddcfbjgcbioaaGreatDoorVI
import Derived.Test.YthddcfbjgcbioaaGreatDoorVH
set_option linter.unusedVariables false
namespace Go.Vc
open Go.RowKit
open Rep (rd)
open Own (own)
section
variable {α β : Type} [Own α] [Tid α] {B m : Nat} {w w' : World} {v' : Value} {xs : List α}
theorem Grew.cell (h : Grew B m w w' v' xs) {p : Addr} {u : Value} (hc : w.cell? p = some u) (hp : p.block < B ∨ m ≤ p.block) : w'.cell? p = some u := by
  rw [World.cell?_of_block (w := w) (h.rest p.block (World.block_lt_of_cell? w p hc) hp)]; exact hc
theorem Grew.slice [Rep β] {S : Nat → Prop} {a : Option Addr} {cap : Nat} {ys : List β} (h : Grew B m w w' v' xs) (hs : IsSlice S w a cap ys) (hS : ∀ b, S b → b < B ∨ m ≤ b) : IsSlice S w' a cap ys :=
  hs.frame fun b hb hl => ⟨h.rest b hl (hS b hb), hb⟩
theorem Grew.other [Own β] {B' m' : Nat} {us : List Value} {y : β} (h : Grew B m w w' v' xs) (hf : Fresh B' m' w us y) (hd : m' ≤ B ∨ m ≤ B') : Fresh B' m' w' us y :=
  hf.keep fun b h1 h2 h3 => h.rest b h3 (by omega)
end

/-- own data none of whose blocks is in H -/
def FreshX {α : Type} [Own α] (H : Nat → Prop) (B m : Nat) (w : World) (vs : List Value) (x : α) : Prop := ∃ F, own F w vs x ∧ F.Nodup ∧ (∀ b, b ∈ F → B ≤ b ∧ b < m) ∧ ∀ b, b ∈ F → ¬ H b
section
variable {α : Type} [Own α] {H : Nat → Prop} {B m : Nat} {w w' : World} {vs : List Value} {x : α}
theorem Fresh.off (h : Fresh B m w vs x) (hH : ∀ b, H b → b < B ∨ m ≤ b) : FreshX H B m w vs x := by
  obtain ⟨F, ho, hn, hb⟩ := h
  exact ⟨F, ho, hn, hb, fun b hb' hh => by have := hb b hb'; have := hH b hh; omega⟩
theorem FreshX.fresh (h : FreshX H B m w vs x) : Fresh B m w vs x := by
  obtain ⟨F, ho, hn, hb, _⟩ := h
  exact ⟨F, ho, hn, hb⟩
theorem FreshX.keep (h : FreshX H B m w vs x) (hf : ∀ b, B ≤ b → b < m → b < w.heap.size → w'.heap[b]? = w.heap[b]?) : FreshX H B m w' vs x := by
  obtain ⟨F, ho, hn, hb, hh⟩ := h
  exact ⟨F, Own.oframe (fun b h => hf b (hb b h).1 (hb b h).2 (Own.lt ho b h)) ho, hn, hb, hh⟩
theorem FreshX.alloc (h : FreshX H B m w vs x) (o : Obj) : FreshX H B m (w.alloc o) vs x := h.keep fun b _ _ hl => Below.heap_alloc w o b hl
theorem FreshX.drew (h : FreshX H B m w vs x) : FreshX H B m w.drew vs x := h.keep (w := w) fun _ _ _ _ => rfl
theorem FreshX.below {C : Nat} (h : FreshX H B m w vs x) (hC : w.heap.size ≤ C) (hb : Below C w w') : FreshX H B m w' vs x := h.keep fun b _ _ hl => hb.block b (by omega)
end
/-- what an append gives, with what it leaves alone -/
structure GrewX {α : Type} [Own α] [Tid α] (H : Nat → Prop) (B m : Nat) (w w' : World) (v' : Value) (xs : List α) : Prop where
  fresh : FreshX H B w'.heap.size w' [v'] xs
  below : Below B w w'
  rest : ∀ b, b < w.heap.size → (b < B ∨ m ≤ b) → w'.heap[b]? = w.heap[b]?
  holes : ∀ b, b < w.heap.size → H b → w'.heap[b]? = w.heap[b]?
section
variable {P : Program} {w w' : World} {α β : Type} [Own α] [Tid α] {H : Nat → Prop} {B m : Nat} {v' : Value} {xs : List α}
theorem GrewX.cell (h : GrewX H B m w w' v' xs) {p : Addr} {u : Value} (hc : w.cell? p = some u) (hp : H p.block) : w'.cell? p = some u := by
  rw [World.cell?_of_block (w := w) (h.holes p.block (World.block_lt_of_cell? w p hc) hp)]; exact hc
theorem run_app_leafX [Leaf α] {t ty : TypeId} {bytes : Nat} (T : SlT P t α bytes) {m0 : Nat} {v : Value} (h : FreshX H B m0 w [v] xs) (hH : ∀ b, H b → b < w.heap.size) (hB : B ≤ w.heap.size)
    {S : Nat → Prop} {a : Option Addr} {c : Nat} {ys : List α} (hy : IsSlice S w a c ys) (hbytes : (xs.length + ys.length) * bytes ≤ 140737488355328) (h63 : xs.length + ys.length ≤ maxLen) :
    ∃ a' c' w', (Builtin.append_ #[t, t] ty #[v, .slice a ys.length c]).run P w = .ok (.slice a' (xs.length + ys.length) c') w' ∧ GrewX H B m0 w w' (.slice a' (xs.length + ys.length) c') (xs ++ ys) := by
  obtain ⟨F, ho, hn, hb, hh⟩ := h
  obtain ⟨ns, hcells, hall⟩ := hy.src
  obtain ⟨v', w', F', hr, ho', hn', hg, hF'⟩ := run_app (P := P) (ty := ty) T ho rfl hcells hall (by rw [flatten_replicate_nil, List.append_nil]; exact hn) hbytes h63
  have hown := own_ownBlock ho
  obtain ⟨a', c', rfl, _⟩ := rd_slice_elim (Own.rd_of ho')
  rw [List.length_append] at hr ho'
  refine ⟨a', c', w', hr, ⟨⟨F', ho', hn', fun b hbm => ⟨?_, Own.lt ho' b hbm⟩, fun b hbm => ?_⟩, ?_, ?_, ?_⟩⟩
  · rcases hF' b hbm with h | h | h
    · exact (hb b h).1
    · rw [flatten_replicate_nil] at h; cases h
    · omega
  · rcases hF' b hbm with h | h | h
    · exact hh b h
    · rw [flatten_replicate_nil] at h; cases h
    · intro hx
      have := hH b hx
      omega
  · exact (Below.refl B w).grown hg hB fun k hk => (hb k (hown k hk)).1
  · intro b hbl hbb
    refine hg.block b hbl fun e => ?_
    have := hb b (hown b e.symm)
    omega
  · intro b hbl hx
    exact hg.block b hbl fun e => hh b (hown b e.symm) hx
section
variable {ops : Array Oper} {rest : List Oper} {o : Oper} {a : Act} {Q : Exit → Act → World → Prop} {K : Act → World → Prop} {E : Prop}
theorem step_app_leafX [Leaf α] {t : TypeId} {bytes : Nat} (T : SlT P t α bytes) (hg : o.guard = none) (s x : Operand) (hop : o.op = Op.call { callee := Callee.builtin Builtin.append, args := #[s, x], argTypes := #[t, t] })
    {m0 : Nat} {v : Value} (hs : a.eval s = v) (h : FreshX H B m0 w [v] xs) (hH : ∀ b, H b → b < w.heap.size) (hB : B ≤ w.heap.size)
    {S : Nat → Prop} {ad : Option Addr} {n c : Nat} {ys : List α} (hx : a.eval x = .slice ad n c) (hn : n = ys.length) (hy : IsSlice S w ad c ys) (hbytes : (xs.length + ys.length) * bytes ≤ 140737488355328) (h63 : xs.length + ys.length ≤ maxLen)
    (hK : ∀ a' c' w', GrewX H B m0 w w' (.slice a' (xs.length + ys.length) c') (xs ++ ys) → K (a.put o.dst (.slice a' (xs.length + ys.length) c')) w') :
    if Region.wanted o (yielded ops a.tmps) = true then Oper.wp P o a w K Q else E := by
  have hw : Region.wanted o (yielded ops a.tmps) = true := by simp [Region.wanted, hg]
  rw [if_pos hw]
  subst hn
  obtain ⟨a', c', w', hr, hgr⟩ := run_app_leafX (P := P) (ty := o.type) T h hH hB hy hbytes h63
  unfold Oper.wp execOp
  simp only [hop, resolve, invoke, builtin, Sem.run_bind, Sem.run_pure, Result.andThen_ok, List.map_toArray, List.map_cons, List.map_nil, hs, hx, hr]
  exact hK a' c' w' hgr
theorem wpList_app_leafX [Leaf α] {t : TypeId} {bytes : Nat} (T : SlT P t α bytes) (hgd : o.guard = none) (s x : Operand) (ho : o.op = .call { callee := .builtin .append, args := #[s, x], argTypes := #[t, t] })
    {m0 : Nat} {v : Value} (hs : a.eval s = v) (h : FreshX H B m0 w [v] xs) (hH : ∀ b, H b → b < w.heap.size) (hB : B ≤ w.heap.size)
    {S : Nat → Prop} {ad : Option Addr} {n c : Nat} {ys : List α} (hx : a.eval x = .slice ad n c) (hn : n = ys.length) (hy : IsSlice S w ad c ys) (hbytes : (xs.length + ys.length) * bytes ≤ 140737488355328) (h63 : xs.length + ys.length ≤ maxLen)
    (k : ∀ a' c' w', GrewX H B m0 w w' (.slice a' (xs.length + ys.length) c') (xs ++ ys) → wpList P ops Q rest (a.put o.dst (.slice a' (xs.length + ys.length) c')) w') : wpList P ops Q (o :: rest) a w := by
  refine wpList_plain hgd fun K hK => ?_
  subst hn
  obtain ⟨a', c', w', hr, hg⟩ := run_app_leafX (P := P) (ty := o.type) T h hH hB hy hbytes h63
  unfold Oper.wp execOp
  simp only [ho, resolve, invoke, builtin, Sem.run_bind, Sem.run_pure, Result.andThen_ok, List.map_toArray, List.map_cons, List.map_nil, hs, hx, hr]
  exact hK _ _ (k a' c' w' hg)
/-- 'append(out, y)' as one step of a region that draws -/
theorem step_app_one {t : TypeId} {bytes : Nat} (T : SlT P t α bytes) (hg : o.guard = none) (s x : Operand) (hop : o.op = Op.call { callee := Callee.builtin Builtin.append, args := #[s, x], argTypes := #[t, t] })
    {m0 : Nat} {v : Value} (hs : a.eval s = v) (h : Fresh B m0 w [v] xs) (hB : B ≤ w.heap.size)
    {g c : Nat} {cs : List Value} {e : TypeId} {m1 : Nat} {y : α} (hx : a.eval x = .slice (some ⟨g, 0, none⟩) 1 c) (hgc : w.heap[g]? = some (.cells cs.toArray e (0, 0))) (hy : Fresh m0 m1 w cs y) (hBm : B ≤ m0)
    (hbytes : (xs.length + 1) * bytes ≤ 140737488355328) (h63 : xs.length + 1 ≤ maxLen)
    (hK : ∀ a' c' w', Grew B m0 w w' (.slice a' (xs.length + 1) c') (xs ++ [y]) → K (a.put o.dst (.slice a' (xs.length + 1) c')) w') :
    if Region.wanted o (yielded ops a.tmps) = true then Oper.wp P o a w K Q else E := by
  have hw : Region.wanted o (yielded ops a.tmps) = true := by simp [Region.wanted, hg]
  rw [if_pos hw]
  obtain ⟨a', c', w', hr, hgr⟩ := run_app_one (P := P) (ty := o.type) T h hB (c := c) hgc hy hBm hbytes h63
  unfold Oper.wp execOp
  simp only [hop, resolve, invoke, builtin, Sem.run_bind, Sem.run_pure, Result.andThen_ok, List.map_toArray, List.map_cons, List.map_nil, hs, hx, hr]
  exact hK a' c' w' hgr
end
end
end Go.Vc
namespace Go.Proofs.YthddcfbjgcbioaaGreatDoor
open Go.RowKit Go.Vc
open Go.Vc.Rep (rd)
open Go.Vc.Own (own)

set_option maxHeartbeats 1000000 in
theorem pathOk_is (s : ByteArray) (w : World) (hs : ShortS s) (hm : ML w) {b : Bool} (hb : pathB s = b) :
    Calls Tryz.prog 47 #[.string s] w fun e w' => e = .returned (.bool b) ∧ Below w.heap.size w w' := by
  subst hb
  go_enter Tryz.func47, Tryz.ntmps47
  go_wp2_with fail
  refine (split_any s w hs hm).mono ?_
  rintro e w1 ⟨v, rfl, hv, hb1⟩
  obtain ⟨a, cap, rfl, hs1⟩ := rd_slice_elim hv
  have hle := hs1.le
  by_cases h3 : (pieces 47 s).length ≤ 3
  · have d3 : decide ((3 : Int) < (pieces 47 s).length) = false := decide_eq_false (by omega)
    have HP := Lib.hid (path_short h3)
    clear h3
    obtain ⟨P, hP⟩ : ∃ P, P = pieces 47 s := ⟨_, rfl⟩
    rw [← hP] at hs1 hle d3 HP hv ⊢
    clear hP
    go_wp2
    go_loop [13] (fun i => ∃ k : Nat, k ≤ P.length ∧ i = .int .i64 k ∧ Hid (P.all nameB = (P.drop k).all nameB)) (fun i => P.length - (intOf i).toNat)
    case atStart => exact ⟨0, by omega, rfl, rfl⟩
    case round =>
      obtain ⟨k, hk, rfl, HA⟩ := hrel
      by_cases hlt : k < P.length
      · obtain ⟨g, off, rfl, hc, hsz⟩ := hs1.str hlt
        cases hn : nameB P[k] with
        | false =>
          have HN := Lib.hid (all_bad HA.out hlt hn)
          go_wp2_with fail
          refine (nameOk_is _ _ hsz hn).mono ?_
          rintro e w2 ⟨rfl, rfl⟩
          go_wp2
          go_ret
          exact ⟨ret_bool (by rw [HP.out, HN.out]), hb1⟩
        | true =>
          have HN := Lib.hid (all_next HA.out hlt hn)
          go_wp2_with fail
          refine (nameOk_is _ _ hsz hn).mono ?_
          rintro e w2 ⟨rfl, rfl⟩
          go_wp2
          go_round
          case rel => exact ⟨k + 1, by omega, by go_num, HN.out⟩
          case measure => simp [intOf]; omega
      · have HN := Lib.hid (all_end HA.out hlt)
        go_wp2
        go_ret
        exact ⟨ret_bool (by rw [HP.out, HN.out]), hb1⟩
  · have d3 : decide ((3 : Int) < (pieces 47 s).length) = true := decide_eq_true (by omega)
    have HP := Lib.hid (path_long h3)
    clear h3
    go_wp2
    go_ret
    exact ⟨ret_bool HP.out.symm, hb1⟩

set_option maxHeartbeats 2000000 in
set_option maxRecDepth 100000 in
theorem l1Cut_any (s : ByteArray) (c : UInt8) (m : Nat) (w : World) (hs : s.size ≤ maxLen) (hm : m ≤ 1000) :
    Calls Tryz.prog 78 #[.string s, .int .u8 c.toNat, .int .i64 m] w fun e w' => ∃ v, e = .returned v ∧ Fresh w.heap.size w'.heap.size w' [v] (piecesM c m s) ∧ Below w.heap.size w w' := by
  unfold maxLen at hs
  go_enter Tryz.func78, Tryz.ntmps78
  go_wp2
  go_loopw [7, 8, 9] (fun out f i wr => (∃ (ol : List ByteArray) (f' k : Nat), f = .int .i64 f' ∧ i = .int .i64 k ∧ f' ≤ k ∧ k ≤ s.size ∧ ol.length ≤ m ∧ Fresh w.heap.size wr.heap.size wr [out] ol ∧ Hid (CutS c m s ol f' k)) ∧ Below w.heap.size w wr) (fun _ _ i _ => s.size - (intOf i).toNat)
  case atStart => exact ⟨⟨[], 0, 0, rfl, rfl, Nat.le_refl _, Nat.zero_le _, Nat.zero_le _, (Fresh.empty (β := ByteArray) (by decide) w.heap.size w (Nat.le_refl _)).now, CutS.start c m s⟩, ((Below.refl _ _).alloc (by simp <;> omega) _)⟩
  case round =>
    obtain ⟨⟨ol, f, k, rfl, rfl, hfk, hk, hol, hF, HC⟩, hb⟩ := hrel
    obtain ⟨a2, c2, rfl, _⟩ := hF.shape
    have hsz := hb.size
    by_cases hlt : k < s.size
    · by_cases hlm : ol.length < m
      · by_cases he : s[k].toNat = c.toNat
        · have HN := Lib.hid (HC.out.cut hlt he hlm)
          have he' : decide (s[k].toNat = c.toNat) = true := decide_eq_true he
          have hxs : (s.extract f k).size ≤ maxLen := by rw [ByteArray.size_extract]; unfold maxLen; omega
          go_wp2_with (at_builtin; go_must (refine wpList_app_leaf slz_string.slt rfl (.tmp 28) (.tmp 33) rfl rfl (hF.alloc _) (by simp; omega) rfl rfl (lit_strs [s.extract f k] (heap_alloc_new _ _) (by simpa using hxs) (by unfold maxLen; simp)) (by simp; omega) (by unfold maxLen; simp; omega) ?_); intro a5 c5 w5 hG5)
          go_roundw
          case rel => exact ⟨⟨ol ++ [s.extract f k], k + 1, k + 1, by go_num, by go_num, by omega, by omega, by simp; omega, by have := hG5.fresh; simpa using this, HN.out⟩, (hb.alloc hsz _).trans hG5.below⟩
          case measure => simp [intOf]; omega
        · have HN := Lib.hid (HC.out.skip hlt he)
          have he' : decide (s[k].toNat = c.toNat) = false := decide_eq_false he
          go_wp2
          go_roundw
          case rel => exact ⟨⟨ol, f, k + 1, rfl, by go_num, by omega, by omega, hol, hF, HN.out⟩, hb⟩
          case measure => simp [intOf]; omega
      · have HN := Lib.hid (HC.out.fin (.inr hlm))
        have hxs : (s.extract f s.size).size ≤ maxLen := by rw [ByteArray.size_extract]; unfold maxLen; omega
        go_wp2_with (at_builtin; go_must (refine wpList_app_leaf slz_string.slt rfl (.tmp 37) (.tmp 41) rfl rfl (hF.alloc _) (by simp; omega) rfl rfl (lit_strs [s.extract f s.size] (heap_alloc_new _ _) (by simpa using hxs) (by unfold maxLen; simp)) (by simp; omega) (by unfold maxLen; simp; omega) ?_); intro a5 c5 w5 hG5)
        go_ret
        exact ⟨_, rfl, by rw [HN.out]; have := hG5.fresh; simpa using this, (hb.alloc hsz _).trans hG5.below⟩
    · have HN := Lib.hid (HC.out.fin (.inl hlt))
      have hxs : (s.extract f s.size).size ≤ maxLen := by rw [ByteArray.size_extract]; unfold maxLen; omega
      go_wp2_with (at_builtin; go_must (refine wpList_app_leaf slz_string.slt rfl (.tmp 37) (.tmp 41) rfl rfl (hF.alloc _) (by simp; omega) rfl rfl (lit_strs [s.extract f s.size] (heap_alloc_new _ _) (by simpa using hxs) (by unfold maxLen; simp)) (by simp; omega) (by unfold maxLen; simp; omega) ?_); intro a5 c5 w5 hG5)
      go_ret
      exact ⟨_, rfl, by rw [HN.out]; have := hG5.fresh; simpa using this, (hb.alloc hsz _).trans hG5.below⟩

set_option maxHeartbeats 1000000 in
theorem l4Path_is (s : ByteArray) (w : World) (hs : s.size ≤ maxLen) {b : Bool} (hb : pathB s = b) :
    Calls Tryz.prog 60 #[.string s] w fun e w' => e = .returned (.bool b) ∧ Below w.heap.size w w' := by
  subst hb
  have HP := Lib.hid (pathB_piecesM s)
  have hpl := piecesM_len 47 3 s
  go_enter Tryz.func60, Tryz.ntmps60
  go_wp2_with fail
  refine (l1Cut_any s 47 3 w hs (by decide)).mono ?_
  rintro e w1 ⟨v, rfl, hv, hb1⟩
  obtain ⟨a, cap, rfl, hs1⟩ := rd_slice_elim hv.rd
  have hle := hs1.le
  obtain ⟨P, hP⟩ : ∃ P, P = piecesM 47 3 s := ⟨_, rfl⟩
  rw [← hP] at hs1 hle HP hpl hv ⊢
  clear hP
  go_wp2
  go_loop [4] (fun i => ∃ k : Nat, k ≤ P.length ∧ i = .int .i64 k ∧ Hid (P.all nameB = (P.drop k).all nameB)) (fun i => P.length - (intOf i).toNat)
  case atStart => exact ⟨0, by omega, rfl, rfl⟩
  case round =>
    obtain ⟨k, hk, rfl, HA⟩ := hrel
    by_cases hlt : k < P.length
    · obtain ⟨g, off, rfl, hc, hsz⟩ := hs1.str hlt
      cases hn : nameB P[k] with
      | false =>
        have HN := Lib.hid (all_bad HA.out hlt hn)
        go_wp2_with fail
        refine (l4Name_is _ _ hsz hn).mono ?_
        rintro e w2 ⟨rfl, rfl⟩
        go_wp2
        go_ret
        exact ⟨ret_bool (by rw [HP.out, HN.out, Bool.and_false]), hb1⟩
      | true =>
        have HN := Lib.hid (all_next HA.out hlt hn)
        go_wp2_with fail
        refine (l4Name_is _ _ hsz hn).mono ?_
        rintro e w2 ⟨rfl, rfl⟩
        go_wp2
        go_round
        case rel => exact ⟨k + 1, by omega, by go_num, HN.out⟩
        case measure => simp [intOf]; omega
    · have HN := Lib.hid (all_end HA.out hlt)
      go_wp2
      go_ret
      exact ⟨ret_bool (by rw [HP.out, HN.out, Bool.and_true]; rw [decide_eq_decide]; omega), hb1⟩
end Go.Proofs.YthddcfbjgcbioaaGreatDoor
namespace Go.Proofs.YthddcfbjgcbioaaGreatDoor
open Go.RowKit Go.Vc
open Go.Vc.Rep (rd)
open Go.Vc.Own (own)

set_option maxHeartbeats 1000000 in
theorem hasPrefix_is (s p : ByteArray) (w : World) (hs : s.size ≤ maxLen) (hp : p.size ≤ maxLen) {b : Bool} (hb : pfxB p s = b) :
    Calls Tryz.prog 68 #[.string s, .string p] w fun e w' => e = .returned (.bool b) ∧ w = w' := by
  subst hb
  unfold maxLen at hs hp
  by_cases hl : p.size ≤ s.size
  · have H := Lib.hid (pfxB_of hl)
    cases he : decide (s.extract 0 p.size = p) with
    | true =>
      rw [he] at H
      go_enter Tryz.func68, Tryz.ntmps68
      go_wp2
      go_ret
      exact ⟨ret_bool H.out.symm, rfl⟩
    | false =>
      rw [he] at H
      go_enter Tryz.func68, Tryz.ntmps68
      go_wp2
      go_ret
      exact ⟨ret_bool H.out.symm, rfl⟩
  · have H := Lib.hid (pfxB_long hl)
    go_enter Tryz.func68, Tryz.ntmps68
    go_wp2
    go_ret
    exact ⟨ret_bool H.out.symm, rfl⟩

set_option maxHeartbeats 1000000 in
theorem l4In_is (d p : ByteArray) (w : World) (hs : d.size ≤ maxLen) (hp : p.size ≤ maxLen) {b : Bool} (hb : inB d p = b) :
    Calls Tryz.prog 61 #[.string d, .string p] w fun e w' => e = .returned (.bool b) ∧ w = w' := by
  subst hb
  unfold maxLen at hs hp
  by_cases hl : d.size < p.size
  · by_cases he : p.extract 0 d.size = d
    · have H := Lib.hid (inB_of' hl he)
      have he' : decide (p.extract 0 d.size = d) = true := decide_eq_true he
      clear he
      go_enter Tryz.func61, Tryz.ntmps61
      go_wp2
      go_ret
      exact ⟨ret_bool H.out.symm, rfl⟩
    · have H := Lib.hid (inB_other he)
      have he' : decide (p.extract 0 d.size = d) = false := decide_eq_false he
      clear he
      go_enter Tryz.func61, Tryz.ntmps61
      go_wp2
      go_ret
      exact ⟨ret_bool H.out.symm, rfl⟩
  · have H := Lib.hid (inB_short hl)
    go_enter Tryz.func61, Tryz.ntmps61
    go_wp2
    go_ret
    exact ⟨ret_bool H.out.symm, rfl⟩

set_option maxHeartbeats 1000000 in
theorem pathIn_is (d p : ByteArray) (w : World) (hd : ShortS d) (hp : ShortS p) (hM : ML w) {b : Bool} (hb : pathInB d p = b) :
    Calls Tryz.prog 48 #[.string d, .string p] w fun e w' => e = .returned (.bool b) ∧ Below w.heap.size w w' := by
  subst hb
  cases h1 : pathB d with
  | false =>
    have H := Lib.hid (show pathInB d p = false by rw [pathInB, h1]; rfl)
    go_enter Tryz.func48, Tryz.ntmps48
    go_wp2_with fail
    refine (pathOk_is _ _ hd hM h1).mono ?_
    rintro e w1 ⟨rfl, hb1⟩
    go_wp2
    go_ret
    exact ⟨ret_bool H.out.symm, hb1⟩
  | true =>
    cases h2 : pathB p with
    | false =>
      have H := Lib.hid (show pathInB d p = false by rw [pathInB, h1, h2]; rfl)
      go_enter Tryz.func48, Tryz.ntmps48
      go_wp2_with fail
      refine (pathOk_is _ _ hd hM h1).mono ?_
      rintro e w1 ⟨rfl, hb1⟩
      go_wp2_with fail
      refine (pathOk_is _ _ hp (hM.keep hb1) h2).mono ?_
      rintro e w2 ⟨rfl, hb2⟩
      go_wp2
      go_ret
      exact ⟨ret_bool H.out.symm, hb1.trans (hb2.mono hb1.size)⟩
    | true =>
      cases h3 : inB d p with
      | false =>
        have H := Lib.hid (show pathInB d p = false by rw [pathInB, h1, h2, h3]; rfl)
        have hz1 : p.size ≤ maxLen := by unfold ShortS at hp; unfold maxLen; omega
        have hz2 : (d ++ ⟨#[47]⟩ : ByteArray).size ≤ maxLen := by rw [append_size]; unfold ShortS at hd; unfold maxLen; show d.size + 1 ≤ _; omega
        have hno : ¬ 9223372036854775807 < d.size + 1 := by unfold ShortS at hd; omega
        go_enter Tryz.func48, Tryz.ntmps48
        go_wp2_with fail
        refine (pathOk_is _ _ hd hM h1).mono ?_
        rintro e w1 ⟨rfl, hb1⟩
        go_wp2_with fail
        refine (pathOk_is _ _ hp (hM.keep hb1) h2).mono ?_
        rintro e w2 ⟨rfl, hb2⟩
        go_wp2_with fail
        refine (hasPrefix_is _ _ _ hz1 hz2 h3).mono ?_
        rintro e w3 ⟨rfl, rfl⟩
        go_wp2
        go_ret
        exact ⟨ret_bool H.out.symm, hb1.trans (hb2.mono hb1.size)⟩
      | true =>
        have H := Lib.hid (show pathInB d p = true by rw [pathInB, h1, h2, h3]; rfl)
        have hz1 : p.size ≤ maxLen := by unfold ShortS at hp; unfold maxLen; omega
        have hz2 : (d ++ ⟨#[47]⟩ : ByteArray).size ≤ maxLen := by rw [append_size]; unfold ShortS at hd; unfold maxLen; show d.size + 1 ≤ _; omega
        have hno : ¬ 9223372036854775807 < d.size + 1 := by unfold ShortS at hd; omega
        go_enter Tryz.func48, Tryz.ntmps48
        go_wp2_with fail
        refine (pathOk_is _ _ hd hM h1).mono ?_
        rintro e w1 ⟨rfl, hb1⟩
        go_wp2_with fail
        refine (pathOk_is _ _ hp (hM.keep hb1) h2).mono ?_
        rintro e w2 ⟨rfl, hb2⟩
        go_wp2_with fail
        refine (hasPrefix_is _ _ _ hz1 hz2 h3).mono ?_
        rintro e w3 ⟨rfl, rfl⟩
        go_wp2
        go_ret
        exact ⟨ret_bool H.out.symm, hb1.trans (hb2.mono hb1.size)⟩
end Go.Proofs.YthddcfbjgcbioaaGreatDoor
