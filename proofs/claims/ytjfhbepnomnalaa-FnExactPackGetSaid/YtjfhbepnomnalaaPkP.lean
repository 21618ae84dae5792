/-
  Plain functions: the texts of a pack. No program is in sight here.
-/
import Derived.Test.YtjfhbepnomnalaaPlain5
import Derived.Test.YtjfhbepnomnalaaPacked0
set_option linter.unusedVariables false
namespace Go.Vc

/-- what one is made of, and how deep it is -/
def baseAt (p : Packed) (ts : List (List ByteArray)) (ds : List Int) : List ByteArray × Int :=
  if 0 ≤ p.base then (ts.getD p.base.toNat [], ds.getD p.base.toNat 0 + 1) else ([], 1)
def unpF : List Packed → List (List ByteArray) → List Int → Option (List (List ByteArray))
  | [], ts, _ => some ts
  | p :: r, ts, ds =>
    if withinB p.base (-1) ((ts.length : Int) - 1) = true then
      if (dDo (baseAt p ts ds).1 p.pcs).2 = true then
        if 3 < (baseAt p ts ds).2 then none else unpF r (ts ++ [(dDo (baseAt p ts ds).1 p.pcs).1]) (ds ++ [(baseAt p ts ds).2])
      else none
    else none
def unp (p : List Packed) : Option (List (List ByteArray)) := if 12 < p.length then none else unpF p [] []
section
variable {p : List Packed} {k : Nat} {ts : List (List ByteArray)} {ds : List Int} {r : Option (List (List ByteArray))}
theorem unpF_end (H : r = unpF (p.drop k) ts ds) (h : ¬ k < p.length) : r = some ts := by rw [H, drop_nil p k h, unpF]
theorem unpF_bad1 (H : r = unpF (p.drop k) ts ds) (h : k < p.length) (h1 : withinB p[k].base (-1) ((ts.length : Int) - 1) = false) : r = none := by
  rw [H, drop_cons p k h, unpF, if_neg (by rw [h1]; simp)]
theorem unpF_bad2 (H : r = unpF (p.drop k) ts ds) (h : k < p.length) (h1 : withinB p[k].base (-1) ((ts.length : Int) - 1) = true) (h2 : (dDo (baseAt p[k] ts ds).1 p[k].pcs).2 = false) : r = none := by
  rw [H, drop_cons p k h, unpF, if_pos h1, if_neg (by rw [h2]; simp)]
theorem unpF_bad3 (H : r = unpF (p.drop k) ts ds) (h : k < p.length) (h1 : withinB p[k].base (-1) ((ts.length : Int) - 1) = true) (h2 : (dDo (baseAt p[k] ts ds).1 p[k].pcs).2 = true) (h3 : 3 < (baseAt p[k] ts ds).2) : r = none := by
  rw [H, drop_cons p k h, unpF, if_pos h1, if_pos h2, if_pos h3]
theorem unpF_next (H : r = unpF (p.drop k) ts ds) (h : k < p.length) (h1 : withinB p[k].base (-1) ((ts.length : Int) - 1) = true) (h2 : (dDo (baseAt p[k] ts ds).1 p[k].pcs).2 = true) (h3 : ¬ 3 < (baseAt p[k] ts ds).2) :
    r = unpF (p.drop (k + 1)) (ts ++ [(dDo (baseAt p[k] ts ds).1 p[k].pcs).1]) (ds ++ [(baseAt p[k] ts ds).2]) := by
  rw [H, drop_cons p k h, unpF, if_pos h1, if_pos h2, if_neg h3]
end
end Go.Vc
