/-
  Plain functions: the commit that is looked at next. No program is in sight here.
-/
import Derived.Test.YtmblockojnaffaaDoorVM
set_option linter.unusedVariables false
namespace Go.Vc
def nextN (cs : List Commit) (good : List Int) (bad i : Int) : Nat := if (leftT cs bad (good ++ [i])).length < (leftT cs i good).length then (leftT cs i good).length else (leftT cs bad (good ++ [i])).length
def nextS (cs : List Commit) (good : List Int) (bad : Int) (s : Int × Int) (i : Int) : Int × Int := if i = bad then s else if s.1 < 0 ∨ (nextN cs good bad i : Int) < s.2 then (i, (nextN cs good bad i : Int)) else s
def nextF (cs : List Commit) (good : List Int) (bad : Int) (s : Int × Int) (ls : List Int) : Int × Int := ls.foldl (nextS cs good bad) s
theorem nextF_next {cs : List Commit} {good : List Int} {bad : Int} {s M : Int × Int} {ls : List Int} {k : Nat} (H : M = nextF cs good bad s (ls.drop k)) (h : k < ls.length) : M = nextF cs good bad (nextS cs good bad s ls[k]) (ls.drop (k + 1)) := by
  rw [H, drop_cons ls k h]; rfl
theorem nextF_skip {cs : List Commit} {good : List Int} {bad : Int} {s M : Int × Int} {ls : List Int} {k : Nat} (H : M = nextF cs good bad s (ls.drop k)) (h : k < ls.length) (he : ls[k] = bad) : M = nextF cs good bad s (ls.drop (k + 1)) := by
  rw [nextF_next H h, nextS, if_pos he]
theorem nextF_take {cs : List Commit} {good : List Int} {bad : Int} {s M : Int × Int} {ls : List Int} {k n : Nat} (H : M = nextF cs good bad s (ls.drop k)) (h : k < ls.length) (he : ¬ ls[k] = bad) (hn : nextN cs good bad ls[k] = n) (hs : s.1 < 0 ∨ (n : Int) < s.2) : M = nextF cs good bad (ls[k], (n : Int)) (ls.drop (k + 1)) := by
  rw [nextF_next H h, nextS, if_neg he, hn, if_pos hs]
theorem nextF_leave {cs : List Commit} {good : List Int} {bad : Int} {s M : Int × Int} {ls : List Int} {k n : Nat} (H : M = nextF cs good bad s (ls.drop k)) (h : k < ls.length) (he : ¬ ls[k] = bad) (hn : nextN cs good bad ls[k] = n) (h1 : ¬ s.1 < 0) (h2 : ¬ (n : Int) < s.2) : M = nextF cs good bad s (ls.drop (k + 1)) := by
  rw [nextF_next H h, nextS, if_neg he, hn, if_neg (by rintro (h | h); exact h1 h; exact h2 h)]
theorem nextF_end {cs : List Commit} {good : List Int} {bad : Int} {s M : Int × Int} {ls : List Int} {k : Nat} (H : M = nextF cs good bad s (ls.drop k)) (h : ¬ k < ls.length) : M = s := by
  rw [H, drop_nil ls k h]; rfl
theorem anyB_add {n : Nat} {xs : List Int} {x : Int} (h : anyB n xs = true) (hx : 0 ≤ x ∧ x < (n : Int)) : anyB n (xs ++ [x]) = true := by
  unfold anyB at *
  rw [List.all_append, h]
  simp [withinB]
  omega
theorem nextN_le {cs : List Commit} {good : List Int} {bad i : Int} : nextN cs good bad i ≤ cs.length := by
  unfold nextN
  split
  · exact left_len _ _ _
  · exact left_len _ _ _
end Go.Vc
