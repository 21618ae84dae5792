/-
  Walks: reviews.
-/
import Derived.Test.YtlokkbllplhlbaaWN
import Derived.Test.YtlokkbllplhlbaaReview0
set_option linter.unusedVariables false
namespace Go.Vc
def reviewB (v : Review) : Bool := nameB v.branch && nameB v.into && nameB v.by_ && !decide (v.branch = v.into) && decide (v.yes.length ≤ 5) && namesB v.yes
theorem wordB_cases (c : UInt8) : wordB c = !((decide (c.toNat < 97) || decide (122 < c.toNat)) && (decide (c.toNat < 48) || decide (57 < c.toNat))) := by
  unfold wordB
  by_cases h1 : 97 ≤ c.toNat <;> by_cases h2 : c.toNat ≤ 122 <;> by_cases h3 : 48 ≤ c.toNat <;> by_cases h4 : c.toNat ≤ 57 <;> simp [h1, h2, h3, h4] <;> omega
end Go.Vc
namespace Go.Proofs.Ytlokkbllplhlbaa
open Go.RowKit Go.Vc
open Go.Vc.Rep (rd)
open Go.Vc.Own (own)

set_option maxHeartbeats 1000000 in
theorem l4Name_is (s : ByteArray) (w : World) (hs : s.size ≤ maxLen) {b : Bool} (hb : nameB s = b) :
    Calls Try.prog 73 #[.string s] w fun e w' => e = .returned (.bool b) ∧ w = w' := by
  subst hb
  unfold maxLen at hs
  go_enter Try.func73, Try.ntmps73
  go_wp2
  go_loop [3] (fun i => ∃ k : Nat, k ≤ s.size ∧ i = .int .i64 k ∧ Hid (s.data.toList.all wordB = (s.data.toList.drop k).all wordB)) (fun i => s.size - (intOf i).toNat)
  case atStart => exact ⟨0, by omega, rfl, rfl⟩
  case round =>
    obtain ⟨k, hk, rfl, HA⟩ := hrel
    by_cases hlt : k < s.size
    · cases hw : wordB s[k] with
      | false =>
        have HB := Lib.hid (nameB_bad2 (all_bad HA.out (by simpa using hlt) (by rw [byte_at s k hlt]; exact hw)))
        have hc := wordB_cases s[k]
        rw [hw] at hc
        by_cases h1 : s[k].toNat < 97
        · have h3 : s[k].toNat < 48 ∨ 57 < s[k].toNat := by simp [h1] at hc; omega
          have h1' : decide (s[k].toNat < 97) = true := decide_eq_true h1
          clear hc hw
          by_cases h4 : s[k].toNat < 48
          · go_wp2
            go_ret
            exact ⟨ret_bool HB.out.symm, rfl⟩
          · have h5 : 57 < s[k].toNat := by omega
            go_wp2
            go_ret
            exact ⟨ret_bool HB.out.symm, rfl⟩
        · have h2 : 122 < s[k].toNat := by simp [h1] at hc; omega
          have h4 : ¬ s[k].toNat < 48 := by omega
          have h5 : 57 < s[k].toNat := by omega
          clear hc hw
          go_wp2
          go_ret
          exact ⟨ret_bool HB.out.symm, rfl⟩
      | true =>
        have HB := Lib.hid (all_next HA.out (by simpa using hlt) (by rw [byte_at s k hlt]; exact hw))
        have hc := wordB_cases s[k]
        rw [hw] at hc
        by_cases h1 : s[k].toNat < 97
        · have h4 : ¬ s[k].toNat < 48 := by simp [h1] at hc; omega
          have h5 : ¬ 57 < s[k].toNat := by simp [h1] at hc; omega
          clear hc hw
          go_wp2
          go_round
          case rel => exact ⟨k + 1, by omega, by go_num, HB.out⟩
          case measure => simp [intOf]; omega
        · by_cases h2 : 122 < s[k].toNat
          · exfalso
            have h5 : 57 < s[k].toNat := by omega
            simp [h2, h5] at hc
          · clear hc hw
            go_wp2
            go_round
            case rel => exact ⟨k + 1, by omega, by go_num, HB.out⟩
            case measure => simp [intOf]; omega
    · have HE := Lib.hid (all_end HA.out (by simpa using hlt))
      go_wp2_with fail
      refine (l1In_eq _ _ _ _ rfl).mono ?_
      rintro e w1 ⟨rfl, rfl⟩
      go_wp2
      go_ret
      exact ⟨ret_bool (by rw [nameB, HE.out, Bool.and_true]), rfl⟩

theorem stepUp_pos {xs : List ByteArray} {i : Nat} (h : 0 < i) (hi : i < xs.length) : stepUp xs i = lessB (xs[i - 1]'(by omega)) xs[i] := by
  unfold stepUp
  rw [decide_eq_false (by omega), Bool.false_or, List.getD_eq_getElem?_getD, List.getD_eq_getElem?_getD, List.getElem?_eq_getElem hi, List.getElem?_eq_getElem (by omega : i - 1 < xs.length)]
  rfl
theorem stepUp_zero (xs : List ByteArray) : stepUp xs 0 = true := rfl
theorem getD_str {xs : List ByteArray} {i : Nat} (hi : i < xs.length) : xs.getD i ⟨#[]⟩ = xs[i] := by
  rw [List.getD_eq_getElem?_getD, List.getElem?_eq_getElem hi]; rfl

set_option maxHeartbeats 2000000 in
theorem namesOk_is {S : Nat → Prop} (v : Value) (xs : List ByteArray) (w : World) (hv : rd S w [v] xs) {b : Bool} (hb : namesB xs = b) :
    Calls Try.prog 43 #[v] w fun e w' => e = .returned (.bool b) ∧ w = w' := by
  subst hb
  obtain ⟨a, cap, rfl, hs⟩ := rd_slice_elim hv
  have hle := hs.le
  go_enter Try.func43, Try.ntmps43
  go_wp2
  go_loop [7] (fun i => ∃ k : Nat, k ≤ xs.length ∧ i = .int .i64 k ∧ Hid (∀ j, j < k → nameB (xs.getD j ⟨#[]⟩) = true ∧ stepUp xs j = true)) (fun i => xs.length - (intOf i).toNat)
  case atStart => exact ⟨0, by omega, rfl, by show ∀ _, _; intro j hj; omega⟩
  case round =>
    obtain ⟨k, hk, rfl, HA⟩ := hrel
    by_cases hlt : k < xs.length
    · obtain ⟨g, off, rfl, hc, hsz⟩ := hs.str hlt
      cases hn : nameB xs[k] with
      | false =>
        have HN := Lib.hid (namesB_f hlt fun h => by rw [getD_str hlt, hn] at h; cases h.1)
        go_wp2_with fail
        refine (nameOk_is _ _ hsz hn).mono ?_
        rintro e w1 ⟨rfl, rfl⟩
        go_wp2
        go_ret
        exact ⟨ret_bool HN.out.symm, rfl⟩
      | true =>
        by_cases h0 : 0 < k
        · have h0' : decide (0 < k) = true := decide_eq_true h0
          have e1 : ((k : Int) - 1).toNat = k - 1 := by omega
          have e2 : (0 : Int) ≤ (k : Int) - 1 := by omega
          obtain ⟨g', off', hg, hc', hsz'⟩ := hs.str (i := k - 1) (by omega)
          obtain ⟨rfl, rfl⟩ : g = g' ∧ off = off' := by simpa using hg
          have hst := stepUp_pos h0 hlt
          cases hl : lessB xs[k - 1] xs[k] with
          | false =>
            have hl' : Op.bytesLess (xs[k - 1]'(by omega)).toList xs[k].toList = false := hl
            have HN := Lib.hid (namesB_f hlt fun h => by rw [hst, hl] at h; cases h.2)
            clear hg hst hl
            go_wp2_with fail
            refine (nameOk_is _ _ hsz hn).mono ?_
            rintro e w1 ⟨rfl, rfl⟩
            go_wp2
            go_ret
            exact ⟨ret_bool HN.out.symm, rfl⟩
          | true =>
            have hl' : Op.bytesLess (xs[k - 1]'(by omega)).toList xs[k].toList = true := hl
            have HS := Lib.hid (show nameB (xs.getD k ⟨#[]⟩) = true ∧ stepUp xs k = true from ⟨by rw [getD_str hlt]; exact hn, by rw [hst]; exact hl⟩)
            clear hg hst hl
            go_wp2_with fail
            refine (nameOk_is _ _ hsz hn).mono ?_
            rintro e w1 ⟨rfl, rfl⟩
            go_wp2
            go_round
            case rel => exact ⟨k + 1, by omega, by go_num, by show ∀ _, _; intro j hj; by_cases e : j < k; exact HA.out j e; exact (show j = k by omega) ▸ HS.out⟩
            case measure => simp [intOf]; omega
        · have h0' : decide (0 < k) = false := decide_eq_false h0
          have hk0 : k = 0 := by omega
          have HS := Lib.hid (show nameB (xs.getD k ⟨#[]⟩) = true ∧ stepUp xs k = true from ⟨by rw [getD_str hlt]; exact hn, by rw [hk0]; rfl⟩)
          clear hk0
          go_wp2_with fail
          refine (nameOk_is _ _ hsz hn).mono ?_
          rintro e w1 ⟨rfl, rfl⟩
          go_wp2
          go_round
          case rel => exact ⟨k + 1, by omega, by go_num, by show ∀ _, _; intro j hj; by_cases e : j < k; exact HA.out j e; exact (show j = k by omega) ▸ HS.out⟩
          case measure => simp [intOf]; omega
    · have HN := Lib.hid (namesB_t (xs := xs) fun i hi => HA.out i (by omega))
      go_wp2
      go_ret
      exact ⟨ret_bool HN.out.symm, rfl⟩
end Go.Proofs.Ytlokkbllplhlbaa
