/- The plain law of sets of packet numbers as ranges. No program in sight. No condition beyond those in each theorem. -/
namespace Go.Proofs.Ytclfkkapahdgaaa
/-- Ranges that are ascending from behind 'last + 1' on, neither overlapping nor touching, up to 999. -/
def rv : Int → List (Int × Int) → Bool
  | _, [] => true
  | last, r :: rs => decide (last + 2 ≤ r.1) && decide (r.1 ≤ r.2) && decide (r.2 ≤ 999) && rv r.2 rs
def rvalid (rs : List (Int × Int)) : Bool := decide (rs.length ≤ 16) && rv (-2) rs
theorem rv_drop_succ {rs : List (Int × Int)} {k : Nat} (h : k < rs.length) (last : Int) :
    rv last (rs.drop k) = (decide (last + 2 ≤ (rs.getD k (0, 0)).1) && decide ((rs.getD k (0, 0)).1 ≤ (rs.getD k (0, 0)).2) && decide ((rs.getD k (0, 0)).2 ≤ 999) && rv (rs.getD k (0, 0)).2 (rs.drop (k + 1))) := by
  rw [List.drop_eq_getElem_cons h, List.getD_eq_getElem?_getD, List.getElem?_eq_getElem h]; rfl
theorem rv_end (rs : List (Int × Int)) (last : Int) : rv last (rs.drop rs.length) = true := by rw [List.drop_eq_nil_of_le (Nat.le_refl _)]; rfl
end Go.Proofs.Ytclfkkapahdgaaa
