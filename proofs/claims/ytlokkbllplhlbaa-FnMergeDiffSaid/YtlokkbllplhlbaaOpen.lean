/-
  The given form's own reading of an argument ('DataW.trod'), turned into this text's ('rd'). No program is in sight here.
-/
import Derived.Test.YtlokkbllplhlbaaProd
import Derived.ProofKit
import Derived.OpenShut
import Derived.Deep.Slices
import Derived.Deep.Strs
import Derived.Carry
namespace Go.Vc
open Go.RowKit
open Rep (rd)
open Own (own)

/-- what the given form reads at type t reads as an α -/
def Opn (P : Program) (t : TypeId) (α : Type) [Rep α] : Prop :=
  ∀ (H : Type) (enc : TypeId × Value → H) (w : World) (spare : Nat → Bool) (held : Bool) (fuel : Nat) (cs : List Value) (x : DataW H × List MemPlace),
    DataW.trod enc P w 0 spare held fuel t cs = some x → ∃ y : α, rd (fun _ => True) w cs y

section
variable {P : Program} {t : TypeId}
theorem i64_of_wf {n : Int} (h : (Lit.int .i64 n).wf = true) : I64 n := by
  have := h
  simp [Lit.wf, IntKind.min, IntKind.max, IntKind.signed, IntKind.bits] at this
  exact this
theorem opn_int (ht : P.underlying t = some (.int .i64)) : Opn P t Int := by
  intro H enc w spare held fuel cs x h
  obtain ⟨n, rfl, _, hw⟩ := DataW.trod_int ht h
  exact ⟨n, rfl, i64_of_wf hw⟩
theorem opn_byte (ht : P.underlying t = some (.int .u8)) : Opn P t UInt8 := by
  intro H enc w spare held fuel cs x h
  obtain ⟨n, rfl, _, hw⟩ := DataW.trod_int ht h
  have hb : 0 ≤ n ∧ n ≤ 255 := by simpa [Lit.wf, IntKind.min, IntKind.max, IntKind.signed, IntKind.bits] using hw
  refine ⟨UInt8.ofNat n.toNat, ?_⟩
  show [Value.int .u8 n] = [Value.int .u8 ((UInt8.ofNat n.toNat).toNat : Int)]
  have e : (UInt8.ofNat n.toNat).toNat = n.toNat := by rw [UInt8.toNat_ofNat']; omega
  rw [e, Int.toNat_of_nonneg hb.1]
theorem opn_bool (ht : P.underlying t = some .bool) : Opn P t Bool := by
  intro H enc w spare held fuel cs x h
  obtain ⟨b, rfl, _⟩ := DataW.trod_bool ht h
  exact ⟨b, rfl⟩
theorem opn_str (ht : P.underlying t = some .string) : Opn P t ByteArray := by
  intro H enc w spare held fuel cs x h
  obtain ⟨s, rfl, _, hs⟩ := DataW.trod_string ht h
  exact ⟨s, rfl, hs⟩
theorem opn_slice {α : Type} [Rep α] {e : TypeId} (ht : P.underlying t = some (.slice e)) (he : Opn P e α) (hc : P.cellsOf e = Rep.sz α) (hz : 0 < Rep.sz α) : Opn P t (List α) := by
  intro H enc w spare held fuel cs x h
  rcases Deep.open_slice ht h with ⟨rfl, _⟩ | ⟨a, len, cap, m, n, D, Pl, rfl, hb, hl, hm, hmm, _, hel⟩
  · exact ⟨[], rd_slice_nil _ _⟩
  · have hle : len ≤ m := by rw [hmm]; split <;> omega
    have hex : ∀ i : Fin len, ∃ y : α, ∃ us, (∀ j u, us[j]? = some u → w.cell? ((a.add (i.1 * Rep.sz α)).add j) = some u) ∧ rd (fun _ => True) w us y := by
      intro i
      obtain ⟨us, hus, htr⟩ := hel i.1 (Nat.lt_of_lt_of_le i.2 hle)
      obtain ⟨y, hy⟩ := he H enc w spare held n us _ htr
      obtain ⟨_, hlen, hcell⟩ := World.cells?_some hus
      rw [hc] at hcell hlen
      refine ⟨y, us, fun j u hu => ?_, hy⟩
      rw [hcell j (by rw [← hlen]; exact (List.getElem?_eq_some_iff.1 hu).1), hu]
    let f : Fin len → α := fun i => Classical.choose (hex i)
    have hf : ∀ i, _ := fun i => Classical.choose_spec (hex i)
    have hlen : (List.ofFn f).length = len := by simp
    refine ⟨List.ofFn f, some a, cap, by rw [hlen], ?_, hm, fun i hi => ?_⟩
    · rw [hlen]; exact hl
    · rw [hlen] at hi
      obtain ⟨us, hcell, hr⟩ := hf ⟨i, hi⟩
      have hlu := Rep.len hr
      obtain ⟨b, off, spot⟩ := a
      have hspot : spot = none := by
        by_cases h0 : i * Rep.sz α = 0
        · have h1 : 0 < us.length := by omega
          have := hcell 0 us[0] (List.getElem?_eq_getElem h1)
          rw [h0] at this
          simp only [Addr.add, if_true] at this
          cases spot with
          | none => rfl
          | some s =>
            unfold World.cell? at this
            split at this <;> simp at this
        · obtain ⟨us0, hcell0, hr0⟩ := hf ⟨0, by omega⟩
          have hlu0 := Rep.len hr0
          have h1 : 0 < us0.length := by omega
          have := hcell0 0 us0[0] (List.getElem?_eq_getElem h1)
          simp only [Nat.zero_mul, Addr.add, if_true] at this
          cases spot with
          | none => rfl
          | some s =>
            unfold World.cell? at this
            split at this <;> simp at this
      subst hspot
      refine ⟨b, off, us, rfl, trivial, fun j u hu => ?_, ?_, hz⟩
      · have := hcell j u hu
        rw [addr_add, addr_add] at this
        exact this
      · rw [List.getElem_ofFn]; exact hr
end

section
variable {P : Program} {t : TypeId}
theorem opn_struct3 {σ α β γ : Type} [Rep α] [Rep β] [Rep γ] {f0 f1 f2 : Field} (mk : α → β → γ → σ) [Rep σ]
    (hmk : ∀ (w : World) (v0 v1 v2 : List Value) (x : α) (y : β) (z : γ), rd (fun _ => True) w v0 x → rd (fun _ => True) w v1 y → rd (fun _ => True) w v2 z → rd (fun _ => True) w (v0 ++ (v1 ++ v2)) (mk x y z))
    (ht : P.underlying t = some (.struct #[f0, f1, f2])) (h0 : Opn P f0.type α) (h1 : Opn P f1.type β) (h2 : Opn P f2.type γ)
    (hc0 : P.cellsOf f0.type = Rep.sz α) (hc1 : P.cellsOf f1.type = Rep.sz β) (hc2 : P.cellsOf f2.type = Rep.sz γ)
    (ho0 : f0.offset = 0) (ho1 : f1.offset = Rep.sz α) (ho2 : f2.offset = Rep.sz α + Rep.sz β) (hct : P.cellsOf t = Rep.sz α + Rep.sz β + Rep.sz γ) : Opn P t σ := by
  intro H enc w spare held fuel cs x h
  obtain ⟨y0, y1, y2, n, _, hl, g0, g1, g2⟩ := Deep.trod_struct3 ht h
  rw [ho0, hc0] at g0
  rw [ho1, hc1] at g1
  rw [ho2, hc2] at g2
  obtain ⟨x0, r0⟩ := h0 H enc w spare held n _ _ g0
  obtain ⟨x1, r1⟩ := h1 H enc w spare held n _ _ g1
  obtain ⟨x2, r2⟩ := h2 H enc w spare held n _ _ g2
  refine ⟨mk x0 x1 x2, ?_⟩
  have := hmk w _ _ _ x0 x1 x2 r0 r1 r2
  have e : cs = (cs.drop 0).take (Rep.sz α) ++ ((cs.drop (Rep.sz α)).take (Rep.sz β) ++ (cs.drop (Rep.sz α + Rep.sz β)).take (Rep.sz γ)) := by
    rw [List.drop_zero, ← List.drop_drop, List.take_of_length_le (l := (List.drop (Rep.sz β) (List.drop (Rep.sz α) cs))) (by simp; omega), List.take_append_drop, List.take_append_drop]
  rw [e]
  exact this
theorem opn_struct2 {σ α β : Type} [Rep α] [Rep β] {f0 f1 : Field} (mk : α → β → σ) [Rep σ]
    (hmk : ∀ (w : World) (v0 v1 : List Value) (x : α) (y : β), rd (fun _ => True) w v0 x → rd (fun _ => True) w v1 y → rd (fun _ => True) w (v0 ++ v1) (mk x y))
    (ht : P.underlying t = some (.struct #[f0, f1])) (h0 : Opn P f0.type α) (h1 : Opn P f1.type β)
    (hc0 : P.cellsOf f0.type = Rep.sz α) (hc1 : P.cellsOf f1.type = Rep.sz β) (ho0 : f0.offset = 0) (ho1 : f1.offset = Rep.sz α) (hct : P.cellsOf t = Rep.sz α + Rep.sz β) : Opn P t σ := by
  intro H enc w spare held fuel cs x h
  obtain ⟨xs, n, _, _, hl, hlen, hf⟩ := DataW.trod_struct ht h
  obtain ⟨y0, y1, rfl⟩ : ∃ y0 y1, xs = [y0, y1] := by
    match xs, hlen with
    | [y0, y1], _ => exact ⟨y0, y1, rfl⟩
  have g0 := hf 0 f0 rfl
  have g1 := hf 1 f1 rfl
  rw [ho0, hc0] at g0
  rw [ho1, hc1] at g1
  obtain ⟨x0, r0⟩ := h0 H enc w spare held n _ _ g0
  obtain ⟨x1, r1⟩ := h1 H enc w spare held n _ _ g1
  refine ⟨mk x0 x1, ?_⟩
  have := hmk w _ _ x0 x1 r0 r1
  have e : cs = (cs.drop 0).take (Rep.sz α) ++ (cs.drop (Rep.sz α)).take (Rep.sz β) := by
    rw [List.drop_zero, List.take_of_length_le (l := (List.drop (Rep.sz α) cs)) (by simp; omega), List.take_append_drop]
  rw [e]
  exact this
theorem opn_delta {f0 f1 f2 : Field} (ht : P.underlying t = some (.struct #[f0, f1, f2])) (h0 : Opn P f0.type Int) (h1 : Opn P f1.type Int) (h2 : Opn P f2.type (List ByteArray))
    (hc0 : P.cellsOf f0.type = 1) (hc1 : P.cellsOf f1.type = 1) (hc2 : P.cellsOf f2.type = 1) (ho0 : f0.offset = 0) (ho1 : f1.offset = 1) (ho2 : f2.offset = 2) (hct : P.cellsOf t = 3) : Opn P t Delta :=
  opn_struct3 Delta.mk (fun _ v0 v1 v2 _ _ _ r0 r1 r2 => ⟨v0, v1 ++ v2, rfl, r0, v1, v2, rfl, r1, r2⟩) ht h0 h1 h2 hc0 hc1 hc2 ho0 ho1 ho2 hct
end

/-- an argument's reading, out of the given form's -/
theorem Opn.arg {P : Program} {t : TypeId} {α : Type} [Rep α] (h : Opn P t α) {H : Type} {enc : TypeId × Value → H} {w : World} {spare : Nat → Bool} {held : Bool} {v : Value} {d : DataW H} {ps : List MemPlace}
    (hv : DataW.Trod enc P w 0 spare held t v d ps) : ∃ y : α, rd (fun b => b < w.heap.size) w v.cells.toList y := by
  obtain ⟨fuel, hf⟩ := hv
  obtain ⟨y, hy⟩ := h H enc w spare held fuel _ _ hf
  exact ⟨y, Rep.lt hy⟩
end Go.Vc
