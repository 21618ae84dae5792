/-
  A region that draws its order, all of whose operations but a forced end only read, and whose callees write nothing that was there: walked once, its end in whatever world with more memory. No program is in sight here. / Contracts that take the answer as an equation. A struct's cells behind 'h := x[i]'. / Walks: names. / Walks: names, as the reference has it.
-/
import Derived.Test.YthddcfbjgcbioaaGreatDoorCore
import Derived.Test.YthddcfbjgcbioaaGreatDoorVD
import Derived.Test.YthddcfbjgcbioaaGreatDoorVH
set_option linter.unusedVariables false
namespace Go.Vc
open Go.RowKit
section
variable {P : Program} {ops : Array Oper} {md : Region.Mode} {C : World → Prop}

/-- every order of f operations more, all of the first n; then L -/
def Heads (P : Program) (md : Region.Mode) (ops : Array Oper) (C : World → Prop) (n : Nat) (L : Array Bool → Act → Prop) : Nat → Array Bool → Act → Prop
  | 0, listed, a => L listed a
  | f + 1, listed, a => Region.ready md ops listed ≠ [] ∧ ∀ i ∈ Region.ready md ops listed, i < n ∧ qOp P ops C i (Heads P md ops C n L f (listed.setIfInBounds i true)) a

theorem Heads.any {n g : Nat} {L : Array Bool → Act → Prop} {Q : Exit → Act → World → Prop} (hL : ∀ listed a w, C w → L listed a → wpAny P md ops Q g listed a w) :
    ∀ (f : Nat) (listed : Array Bool) (a : Act) (w : World), C w → Heads P md ops C n L f listed a → wpAny P md ops Q (f + g) listed a w
  | 0, _, _, _, hw, h => by rw [Nat.zero_add]; exact hL _ _ _ hw h
  | f + 1, _, _, _, hw, h => by
    rw [show f + 1 + g = f + g + 1 by omega]
    exact ⟨fun h0 => absurd h0 h.1, fun i hi => wpOp_of_qOp hw (fun a' w' hw' h' => Heads.any hL f _ a' w' hw' h') (h.2 i hi).2⟩

theorem Heads.first {n i : Nat} {oi : Oper} {v : Value} {L : Array Bool → Act → Prop} (hi : ops[i]? = some oi) (hsel : ∀ (j : Nat) (o : Oper) cs b, ops[j]? = some o → o.op ≠ .select cs b)
    (hs : Region.sinkB md ops n = true) (hc : Region.chainB md ops n = true) (hn : n < ops.size) (hin : i < n) (hdone : ∀ listed a, L listed a → ∀ j ∈ Region.ready md ops listed, n ≤ j) (f : Nat) :
    ∀ (listed : Array Bool) (a : Act), HeadInv md ops n listed →
      (∀ j oj, ops[j]? = some oj → j ≠ i → listed.getD j true = false → (∀ e ∈ oj.after, Region.binds md e = true → e.on ≠ i) → oi.apart ops oj = true) →
      i ∈ Region.ready md ops listed → YieldsIn P ops C oi v a → Heads P md ops C n L f (listed.setIfInBounds i true) (a.put oi.dst v) → Heads P md ops C n L (f + 1) listed a := by
  induction f with
  | zero =>
    intro listed a inv _ hr hy H
    have hun := (mem_ready.1 hr).1
    refine ⟨List.ne_nil_of_mem hr, fun j hj => ?_⟩
    have hjn : j < n := Nat.lt_of_not_le fun hle => tail_waits hs hc hn inv _ i rfl hin hun j hle hj
    refine ⟨hjn, ?_⟩
    by_cases hji : j = i
    · subst hji; exact hy.qOp hi H
    · exact absurd (hdone _ _ H j (ready_mono hj hji)) (by omega)
  | succ f ih =>
    intro listed a inv hfree hr hy H
    have hun := (mem_ready.1 hr).1
    refine ⟨List.ne_nil_of_mem hr, fun j hj => ?_⟩
    have hjn : j < n := Nat.lt_of_not_le fun hle => tail_waits hs hc hn inv _ i rfl hin hun j hle hj
    refine ⟨hjn, ?_⟩
    by_cases hji : j = i
    · subst hji; exact hy.qOp hi H
    · obtain ⟨hjun, oj, hoj, hall⟩ := mem_ready.1 hj
      have hnot : ∀ e ∈ oj.after, Region.binds md e = true → e.on ≠ i := fun e he hb heq => by
        have := hall e he hb
        rw [heq, getD_both hun] at this
        cases this
      refine qOp_mono (fun a' h3 => ih _ a' (inv.set hj hjn) (fun k ok hk hki hkun hno => hfree k ok hk hki ?_ hno) (ready_mono hr (Ne.symm hji)) h3.1 ?_)
        (qOp_put hoj (hfree j oj hoj hji hjun hnot) (fun cs b => hsel i oi cs b hi) (fun cs b => hsel j oj cs b hoj) hy (H.2 j (ready_mono hj hji)).2)
      · by_cases hjk : j = k
        · subst hjk; exact hjun
        · rwa [getD_set_ne true hjk] at hkun
      · rw [Array.setIfInBounds_comm _ _ hji]
        exact h3.2

theorem Heads.lex {n g : Nat} {R : Act → Prop} (hsel : Region.noSelect ops = true) (hs : Region.sinkB md ops n = true) (hc : Region.chainB md ops n = true) (hn : n < ops.size) :
    ∀ (l : List Oper) (k : Nat) (listed : Array Bool) (a : Act), (∀ j, j < l.length → l[j]? = ops[k + j]?) → k + l.length = n → HeadInv md ops n listed → Region.lexHead md ops g l.length k listed = true → wpQuiet P ops C R l a →
      Heads P md ops C n (fun listed' a' => Region.seqB md ops g n listed' = true ∧ R a') l.length listed a
  | [], k, listed, a, _, hk, _, hB, h => by
    obtain rfl : k = n := by simpa using hk
    exact ⟨by simpa [Region.lexHead] using hB, h⟩
  | o :: l, k, listed, a, hl, hk, inv, hB, h => by
    have h0 : ops[k]? = some o := by simpa using (hl 0 (by simp)).symm
    simp only [List.length_cons, Region.lexHead, Bool.and_eq_true] at hB
    obtain ⟨⟨hr, hf⟩, hB'⟩ := hB
    simp only [List.length_cons] at hk
    have hr' : k ∈ Region.ready md ops listed := by simpa using hr
    have hq : qOp P ops C k (wpQuiet P ops C R l) a := by unfold qOp; simp only [h0]; exact h
    obtain ⟨v, hy, hK⟩ := yieldsIn_of_qOp h0 hq
    exact Heads.first h0 (Region.noSelect_spec hsel) hs hc hn (by omega) (fun _ _ hL => seqB_ready hL.1) l.length listed a inv (Region.free_spec h0 hf) hr' hy
      (Heads.lex hsel hs hc hn l (k + 1) _ _ (fun j hj => by have := hl (j + 1) (by simp; omega); simpa [Nat.add_assoc, Nat.add_comm 1 j] using this) (by omega) (inv.set hr' (by omega)) hB' hK)
end

/-- the first n operations in all worlds with more memory than w, the rest in the text's order from any such world -/
theorem wp_region_tail {P : Program} {id : Nat} {Q : Exit → Act → World → Prop} {a : Act} {w : World} {l : List Oper} (n : Nat) (hm : P.follows .mixedOrders = true) (hB : Region.lexTailB .any l.toArray n = true)
    (h : wpQuiet P l.toArray (fun w' => ∃ m : BW w, w' = m.w) (fun a' => ∀ w', (∃ m : BW w, w' = m.w) → wpList P l.toArray Q (l.drop n) a' w') (l.take n) a) : (Code.region id l.toArray true).wp P Q a w := by
  simp only [Region.lexTailB, Bool.and_eq_true, decide_eq_true_eq] at hB
  obtain ⟨⟨⟨⟨hsel, hn⟩, hs⟩, hc⟩, hlex⟩ := hB
  have hn' : n < l.length := by simpa using hn
  have htl : (l.take n).length = n := by simp; omega
  have hdl : (l.drop n).length = l.toArray.size - n := by simp
  have inv0 : HeadInv .any l.toArray n (Array.replicate l.toArray.size false) :=
    ⟨by simp, fun j _ _ hl => (by rw [getD_replicate_false] at hl; cases hl), fun t _ ht => getD_in (by simpa using ht) (getD_replicate_false _ _)⟩
  have H := Heads.lex (md := .any) (g := l.toArray.size - n) hsel hs hc hn (l.take n) 0 _ a (fun j hj => by
    rw [htl] at hj
    simp [hj]) (by simpa using htl) inv0 (by rw [htl]; exact hlex) h
  refine wp_region_any hm ?_
  have := Heads.any (Q := Q) (g := l.toArray.size - n) (fun listed a' w' hw' hL => by
    have := wpAny_of_seq (md := .any) (Q' := Q) (l.drop n) n listed a' w' (fun j => by simp [List.getElem?_drop]) (by rw [hdl]; exact hL.1) (hL.2 w' hw')
    rwa [hdl] at this) _ _ _ { w with drawn := w.drawn + 1 } ⟨⟨w.drew, (Below.refl _ _).drew⟩, rfl⟩ H
  rw [htl, show n + (l.toArray.size - n) = l.toArray.size by omega] at this
  exact this
end Go.Vc
namespace Go.Vc
open Go.RowKit
open Rep (rd)
/-- a variable's block, new -/
theorem boxed {w wb : World} {vs : List Value} {t : TypeId} (h : wb = w.alloc (.cells vs.toArray t)) : Below w.heap.size w wb ∧ wb.heap.size = w.heap.size + 1 ∧ ∀ j u, vs[j]? = some u → wb.cell? ⟨w.heap.size, j, none⟩ = some u := by
  subst h
  refine ⟨(Below.refl _ _).alloc (Nat.le_refl _) _, by simp, fun j u hu => ?_⟩
  rw [cell_of_row _ _ j _ _ (0, 0) (heap_alloc_new _ _)]
  simpa using hu
theorem dec_le_t {a b : Int} (h : a ≤ b) : decide (a ≤ b) = true := decide_eq_true h
theorem dec_le_f {a b : Int} (h : ¬ a ≤ b) : decide (a ≤ b) = false := decide_eq_false h
end Go.Vc
namespace Go.Proofs.YthddcfbjgcbioaaGreatDoor
open Go.RowKit Go.Vc
open Go.Vc.Rep (rd)
open Go.Vc.Own (own)
theorem textOk_is {S : Nat → Prop} (v : Value) (xs : List ByteArray) (w : World) (hv : rd S w [v] xs) {b : Bool} (h : textB xs = b) :
    Calls Tryz.prog 46 #[v] w fun e w' => e = .returned (.bool b) ∧ w = w' := by rw [← h]; exact textOk_any v xs w hv
theorem within_is (n lo hi : Int) (w : World) {b : Bool} (h : withinB n lo hi = b) :
    Calls Tryz.prog 69 #[.int .i64 n, .int .i64 lo, .int .i64 hi] w fun e w' => e = .returned (.bool b) ∧ w = w' := by rw [← h]; exact within_any n lo hi w
theorem l1In_is (n lo hi : Int) (w : World) {b : Bool} (h : withinB n lo hi = b) :
    Calls Tryz.prog 96 #[.int .i64 n, .int .i64 lo, .int .i64 hi] w fun e w' => e = .returned (.bool b) ∧ w = w' := by rw [← h]; exact l1In_any n lo hi w
theorem l1Ok_is {S : Nat → Prop} (v : Value) (xs : List ByteArray) (w : World) (hv : rd S w [v] xs) {b : Bool} (h : textB xs = b) :
    Calls Tryz.prog 64 #[v] w fun e w' => e = .returned (.bool b) ∧ w = w' := by rw [← h]; exact l1Ok_any v xs w hv
end Go.Proofs.YthddcfbjgcbioaaGreatDoor
namespace Go.Proofs.YthddcfbjgcbioaaGreatDoor
open Go.RowKit Go.Vc
open Go.Vc.Rep (rd)
open Go.Vc.Own (own)

set_option maxHeartbeats 1000000 in
theorem wordByte_is (c : UInt8) (w : World) {b : Bool} (hb : wordB c = b) :
    Calls Tryz.prog 82 #[.int .u8 c.toNat] w fun e w' => e = .returned (.bool b) ∧ w = w' := by
  subst hb
  by_cases h1 : 97 ≤ c.toNat
  · by_cases h2 : c.toNat ≤ 122
    · have H := Lib.hid (show wordB c = true by unfold wordB; simp; omega)
      go_enter Tryz.func82, Tryz.ntmps82
      go_wp2
      go_ret
      exact ⟨ret_bool (by rw [H.out] <;> simp <;> omega), rfl⟩
    · have H := Lib.hid (show wordB c = false by unfold wordB; simp; omega)
      have h4 : ¬ c.toNat ≤ 57 := by omega
      have h3 : 48 ≤ c.toNat := by omega
      go_enter Tryz.func82, Tryz.ntmps82
      go_wp2
      go_ret
      exact ⟨ret_bool (by rw [H.out] <;> simp <;> omega), rfl⟩
  · by_cases h3 : 48 ≤ c.toNat
    · by_cases h4 : c.toNat ≤ 57
      · have H := Lib.hid (show wordB c = true by unfold wordB; simp; omega)
        go_enter Tryz.func82, Tryz.ntmps82
        go_wp2
        go_ret
        exact ⟨ret_bool (by rw [H.out] <;> simp <;> omega), rfl⟩
      · have H := Lib.hid (show wordB c = false by unfold wordB; simp; omega)
        go_enter Tryz.func82, Tryz.ntmps82
        go_wp2
        go_ret
        exact ⟨ret_bool (by rw [H.out] <;> simp <;> omega), rfl⟩
    · have H := Lib.hid (show wordB c = false by unfold wordB; simp; omega)
      go_enter Tryz.func82, Tryz.ntmps82
      go_wp2
      go_ret
      exact ⟨ret_bool (by rw [H.out] <;> simp <;> omega), rfl⟩
theorem within_eq (n lo hi : Int) (w : World) {b : Bool} (h : withinB n lo hi = b) :
    Calls Tryz.prog 69 #[.int .i64 n, .int .i64 lo, .int .i64 hi] w fun e w' => e = .returned (.bool b) ∧ w = w' :=
  (within_any n lo hi w).mono fun e w' h' => by rw [← h]; exact h'
theorem l1In_eq (n lo hi : Int) (w : World) {b : Bool} (h : withinB n lo hi = b) :
    Calls Tryz.prog 96 #[.int .i64 n, .int .i64 lo, .int .i64 hi] w fun e w' => e = .returned (.bool b) ∧ w = w' :=
  (l1In_any n lo hi w).mono fun e w' h' => by rw [← h]; exact h'

set_option maxHeartbeats 1000000 in
theorem nameOk_is (s : ByteArray) (w : World) (hs : s.size ≤ maxLen) {b : Bool} (hb : nameB s = b) :
    Calls Tryz.prog 67 #[.string s] w fun e w' => e = .returned (.bool b) ∧ w = w' := by
  subst hb
  unfold maxLen at hs
  cases h1 : withinB (s.size : Int) 1 6 with
  | false =>
    have HN := Lib.hid (nameB_bad1 h1)
    go_enter Tryz.func67, Tryz.ntmps67
    go_wp2_with fail
    refine (within_eq _ _ _ _ h1).mono ?_
    rintro e w1 ⟨rfl, rfl⟩
    go_wp2
    go_ret
    exact ⟨ret_bool HN.out.symm, rfl⟩
  | true =>
    have HN := Lib.hid (nameB_of h1)
    go_enter Tryz.func67, Tryz.ntmps67
    go_wp2_with fail
    refine (within_eq _ _ _ _ h1).mono ?_
    rintro e w1 ⟨rfl, rfl⟩
    clear h1
    go_wp2
    go_loop [3] (fun i => ∃ k : Nat, k ≤ s.size ∧ i = .int .i64 k ∧ Hid (s.data.toList.all wordB = (s.data.toList.drop k).all wordB)) (fun i => s.size - (intOf i).toNat)
    case atStart => exact ⟨0, by omega, rfl, rfl⟩
    case round =>
      obtain ⟨k, hk, rfl, HA⟩ := hrel
      by_cases hlt : k < s.size
      · cases hw : wordB s[k] with
        | false =>
          have HB := Lib.hid (all_bad HA.out (by simpa using hlt) (by rw [byte_at s k hlt]; exact hw))
          go_wp2_with fail
          refine (wordByte_is _ _ hw).mono ?_
          rintro e w1 ⟨rfl, rfl⟩
          go_wp2
          go_ret
          exact ⟨ret_bool (by rw [HN.out, HB.out]), rfl⟩
        | true =>
          have HB := Lib.hid (all_next HA.out (by simpa using hlt) (by rw [byte_at s k hlt]; exact hw))
          go_wp2_with fail
          refine (wordByte_is _ _ hw).mono ?_
          rintro e w1 ⟨rfl, rfl⟩
          go_wp2
          go_round
          case rel => exact ⟨k + 1, by omega, by go_num, HB.out⟩
          case measure => simp [intOf]; omega
      · go_wp2
        go_ret
        exact ⟨ret_bool (by rw [HN.out, all_end HA.out (by simpa using hlt)]), rfl⟩
end Go.Proofs.YthddcfbjgcbioaaGreatDoor
namespace Go.Vc
theorem wordB_cases (c : UInt8) : wordB c = !((decide (c.toNat < 97) || decide (122 < c.toNat)) && (decide (c.toNat < 48) || decide (57 < c.toNat))) := by
  unfold wordB
  by_cases h1 : 97 ≤ c.toNat <;> by_cases h2 : c.toNat ≤ 122 <;> by_cases h3 : 48 ≤ c.toNat <;> by_cases h4 : c.toNat ≤ 57 <;> simp [h1, h2, h3, h4] <;> omega
end Go.Vc
namespace Go.Proofs.YthddcfbjgcbioaaGreatDoor
open Go.RowKit Go.Vc
open Go.Vc.Rep (rd)
open Go.Vc.Own (own)

set_option maxHeartbeats 1000000 in
theorem l4Name_is (s : ByteArray) (w : World) (hs : s.size ≤ maxLen) {b : Bool} (hb : nameB s = b) :
    Calls Tryz.prog 79 #[.string s] w fun e w' => e = .returned (.bool b) ∧ w = w' := by
  subst hb
  unfold maxLen at hs
  go_enter Tryz.func79, Tryz.ntmps79
  go_wp2
  go_loop [3] (fun i => ∃ k : Nat, k ≤ s.size ∧ i = .int .i64 k ∧ Hid (s.data.toList.all wordB = (s.data.toList.drop k).all wordB)) (fun i => s.size - (intOf i).toNat)
  case atStart => exact ⟨0, by omega, rfl, rfl⟩
  case round =>
    obtain ⟨k, hk, rfl, HA⟩ := hrel
    by_cases hlt : k < s.size
    · cases hw : wordB s[k] with
      | false =>
        have HB := Lib.hid (nameB_bad2 (all_bad HA.out (by simpa using hlt) (by rw [byte_at s k hlt]; exact hw)))
        have hc := wordB_cases s[k]
        rw [hw] at hc
        by_cases h1 : s[k].toNat < 97
        · have h3 : s[k].toNat < 48 ∨ 57 < s[k].toNat := by simp [h1] at hc; omega
          have h1' : decide (s[k].toNat < 97) = true := decide_eq_true h1
          clear hc hw
          by_cases h4 : s[k].toNat < 48
          · go_wp2
            go_ret
            exact ⟨ret_bool HB.out.symm, rfl⟩
          · have h5 : 57 < s[k].toNat := by omega
            go_wp2
            go_ret
            exact ⟨ret_bool HB.out.symm, rfl⟩
        · have h2 : 122 < s[k].toNat := by simp [h1] at hc; omega
          have h4 : ¬ s[k].toNat < 48 := by omega
          have h5 : 57 < s[k].toNat := by omega
          clear hc hw
          go_wp2
          go_ret
          exact ⟨ret_bool HB.out.symm, rfl⟩
      | true =>
        have HB := Lib.hid (all_next HA.out (by simpa using hlt) (by rw [byte_at s k hlt]; exact hw))
        have hc := wordB_cases s[k]
        rw [hw] at hc
        by_cases h1 : s[k].toNat < 97
        · have h4 : ¬ s[k].toNat < 48 := by simp [h1] at hc; omega
          have h5 : ¬ 57 < s[k].toNat := by simp [h1] at hc; omega
          clear hc hw
          go_wp2
          go_round
          case rel => exact ⟨k + 1, by omega, by go_num, HB.out⟩
          case measure => simp [intOf]; omega
        · by_cases h2 : 122 < s[k].toNat
          · exfalso
            have h5 : 57 < s[k].toNat := by omega
            simp [h2, h5] at hc
          · clear hc hw
            go_wp2
            go_round
            case rel => exact ⟨k + 1, by omega, by go_num, HB.out⟩
            case measure => simp [intOf]; omega
    · have HE := Lib.hid (all_end HA.out (by simpa using hlt))
      go_wp2_with fail
      refine (l1In_eq _ _ _ _ rfl).mono ?_
      rintro e w1 ⟨rfl, rfl⟩
      go_wp2
      go_ret
      exact ⟨ret_bool (by rw [nameB, HE.out, Bool.and_true]), rfl⟩
end Go.Proofs.YthddcfbjgcbioaaGreatDoor
