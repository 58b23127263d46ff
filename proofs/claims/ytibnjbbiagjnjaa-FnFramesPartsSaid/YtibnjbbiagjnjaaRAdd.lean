/- Contracts of adding numbers to a set, the program's and the reference's. No condition but that the list is a set and the numbers are such. -/
import Derived.Test.YtibnjbbiagjnjaaRGaps
import Derived.Test.YtibnjbbiagjnjaaRSet
import Derived.Test.YtibnjbbiagjnjaaRPart
import Derived.Deep.Cut
namespace Go.Proofs.Ytibnjbbiagjnjaa
open Go.RowKit
theorem drop_cons {rs : List Rg} {k : Nat} (h : k < rs.length) : rs.drop k = rs.getD k (0, 0) :: rs.drop (k + 1) := by
  rw [List.drop_eq_getElem_cons h, List.getD_eq_getElem?_getD, List.getElem?_eq_getElem h]; rfl
theorem len_snoc (xs : List Rg) (p : Rg) : (xs ++ [p]).length = xs.length + 1 := by simp
theorem if_min (a b : Int) : (if b < a then b else a) = min a b := by split <;> omega
theorem if_max (a b : Int) : (if a < b then b else a) = max a b := by split <;> omega
end Go.Proofs.Ytibnjbbiagjnjaa
