/-
  An own row, its elements' own data aside; a text of an own tree written. No program is in sight here.
-/
import Derived.Test.YtlpfoekbccbhlaaRaw
import Derived.Test.YtlpfoekbccbhlaaKeep
import Derived.Test.YtlpfoekbccbhlaaFile0
set_option linter.unusedVariables false
namespace Go.Vc
open Go.RowKit
open Rep (rd)
open Own (own)
theorem rawAll {α : Type} [Own α] {w : World} : ∀ {Fs : List (List Nat)} {cs : List (List Value)} {xs : List α}, ownAll w Fs cs xs →
    ∃ rs : List (Raw α), rs.length = xs.length ∧ All2 (fun (r : Raw α) x => Rep.rd (fun b => b ∈ Fs.flatten) w (Raw.vs r) x) rs xs ∧ ownAll w (List.replicate rs.length []) cs rs
  | [], [], [], _ => ⟨[], rfl, trivial, trivial⟩
  | F :: Fs, c :: cs, x :: xs, h => by
    obtain ⟨h1, h2⟩ := h
    obtain ⟨rs, k1, k2, k3⟩ := rawAll h2
    have hr := Own.rd_of h1
    refine ⟨⟨c, Rep.len hr, Rep.one hr⟩ :: rs, by simp [k1], ⟨Rep.mono (fun b hb => List.mem_flatten.2 ⟨F, List.mem_cons_self .., hb⟩) hr, k2.mono fun r x h => Rep.mono (fun b hb => ?_) h⟩, ⟨⟨rfl, rfl⟩, k3⟩⟩
    rw [List.flatten_cons]
    exact List.mem_append.2 (.inr hb)
  | [], _ :: _, _, h => by cases h
  | [], [], _ :: _, h => by cases h
  | _ :: _, [], _, h => by cases h
  | _ :: _, _ :: _, [], h => by cases h
theorem Fresh.toRaw {α : Type} [Own α] [Tid α] {B m : Nat} {w : World} {v : Value} {xs : List α} (h : Fresh B m w [v] xs) :
    ∃ (H : Nat → Prop) (rs : List (Raw α)), rs.length = xs.length ∧ FreshX H B m w [v] rs ∧ All2 (fun (r : Raw α) x => Rep.rd H w (Raw.vs r) x) rs xs ∧ ∀ b, H b → B ≤ b ∧ b < m ∧ b < w.heap.size := by
  obtain ⟨F, ⟨v', cs, Fs, hv, hrow, rfl, hall, hz⟩, hn, hb⟩ := h
  simp at hv
  subst hv
  obtain ⟨rs, k1, k2, k3⟩ := rawAll hall
  obtain ⟨n1, n2, n3⟩ := List.nodup_append.1 hn
  refine ⟨fun b => b ∈ Fs.flatten, rs, k1, ⟨v.ownBlock.toList ++ (List.replicate rs.length ([] : List Nat)).flatten, ⟨v, cs, List.replicate rs.length [], rfl, ?_, rfl, k3, hz⟩, ?_, ?_, ?_⟩, k2, fun b h => ?_⟩
  · rw [k1]; exact hrow
  · rw [flatten_replicate_nil, List.append_nil]; exact n1
  · intro b h
    rw [flatten_replicate_nil, List.append_nil] at h
    exact hb b (List.mem_append.2 (.inl h))
  · intro b h h2
    rw [flatten_replicate_nil, List.append_nil] at h
    exact n3 b h b h2 rfl
  · have := hb b (List.mem_append.2 (.inr h))
    exact ⟨this.1, this.2, hall.lt b h⟩
end Go.Vc
