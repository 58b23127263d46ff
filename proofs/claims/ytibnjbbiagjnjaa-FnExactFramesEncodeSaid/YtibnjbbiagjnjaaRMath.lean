/- The plain law of sets of packet numbers as ranges. No program in sight. No condition beyond those in each theorem. -/
namespace Go.Proofs.Ytibnjbbiagjnjaa
/-- Ranges that are ascending from behind 'last + 1' on, neither overlapping nor touching, up to 999. -/
def rv : Int → List (Int × Int) → Bool
  | _, [] => true
  | last, r :: rs => decide (last + 2 ≤ r.1) && decide (r.1 ≤ r.2) && decide (r.2 ≤ 999) && rv r.2 rs
def rvalid (rs : List (Int × Int)) : Bool := decide (rs.length ≤ 16) && rv (-2) rs
theorem rv_drop_succ {rs : List (Int × Int)} {k : Nat} (h : k < rs.length) (last : Int) :
    rv last (rs.drop k) = (decide (last + 2 ≤ (rs.getD k (0, 0)).1) && decide ((rs.getD k (0, 0)).1 ≤ (rs.getD k (0, 0)).2) && decide ((rs.getD k (0, 0)).2 ≤ 999) && rv (rs.getD k (0, 0)).2 (rs.drop (k + 1))) := by
  rw [List.drop_eq_getElem_cons h, List.getD_eq_getElem?_getD, List.getElem?_eq_getElem h]; rfl
theorem rv_end (rs : List (Int × Int)) (last : Int) : rv last (rs.drop rs.length) = true := by rw [List.drop_eq_nil_of_le (Nat.le_refl _)]; rfl
/-- How many numbers the ranges hold. -/
def rsum : List (Int × Int) → Int
  | [] => 0
  | r :: rs => r.2 - r.1 + 1 + rsum rs
def rcount (rs : List (Int × Int)) : Int := if rvalid rs then rsum rs else -1
theorem rsum_drop_succ {rs : List (Int × Int)} {k : Nat} (h : k < rs.length) : rsum (rs.drop k) = (rs.getD k (0, 0)).2 - (rs.getD k (0, 0)).1 + 1 + rsum (rs.drop (k + 1)) := by
  rw [List.drop_eq_getElem_cons h, List.getD_eq_getElem?_getD, List.getElem?_eq_getElem h]; rfl
theorem rv_step {rs : List (Int × Int)} {k : Nat} (h : k < rs.length) {last : Int} (hv : rv last (rs.drop k) = true) :
    last + 2 ≤ (rs.getD k (0, 0)).1 ∧ (rs.getD k (0, 0)).1 ≤ (rs.getD k (0, 0)).2 ∧ (rs.getD k (0, 0)).2 ≤ 999 ∧ rv (rs.getD k (0, 0)).2 (rs.drop (k + 1)) = true := by
  rw [rv_drop_succ h] at hv
  simp only [Bool.and_eq_true, decide_eq_true_eq] at hv
  exact ⟨hv.1.1.1, hv.1.1.2, hv.1.2, hv.2⟩
theorem rvalid_len {rs : List (Int × Int)} (h : rvalid rs = true) : rs.length ≤ 16 := by
  unfold rvalid at h; simp only [Bool.and_eq_true, decide_eq_true_eq] at h; exact h.1
theorem rvalid_rv {rs : List (Int × Int)} (h : rvalid rs = true) : rv (-2) rs = true := by
  unfold rvalid at h; simp only [Bool.and_eq_true, decide_eq_true_eq] at h; exact h.2
/-- Whether x lies in one of the ranges. -/
def rhas (rs : List (Int × Int)) (x : Int) : Bool := rs.any fun r => decide (r.1 ≤ x) && decide (x ≤ r.2)
theorem rhas_drop_succ {rs : List (Int × Int)} {k : Nat} (h : k < rs.length) (x : Int) : rhas (rs.drop k) x = (decide ((rs.getD k (0, 0)).1 ≤ x) && decide (x ≤ (rs.getD k (0, 0)).2) || rhas (rs.drop (k + 1)) x) := by
  rw [List.drop_eq_getElem_cons h, List.getD_eq_getElem?_getD, List.getElem?_eq_getElem h]; rfl
/-- The gaps between the ranges. -/
def rgaps : List (Int × Int) → List (Int × Int)
  | [] => []
  | [_] => []
  | r :: s :: rs => (r.2 + 1, s.1 - 1) :: rgaps (s :: rs)
def gapsOf (rs : List (Int × Int)) : List (Int × Int) := if rvalid rs then rgaps rs else []
theorem rgaps_take_one (rs : List (Int × Int)) : rgaps (rs.take 1) = [] := by
  cases rs with
  | nil => rfl
  | cons r rs => rfl
theorem rgaps_take_succ : ∀ (rs : List (Int × Int)) (k : Nat), 1 ≤ k → k < rs.length → rgaps (rs.take (k + 1)) = rgaps (rs.take k) ++ [((rs.getD (k - 1) (0, 0)).2 + 1, (rs.getD k (0, 0)).1 - 1)] := by
  intro rs
  induction rs with
  | nil => intro k _ h; simp at h
  | cons r rs ih =>
    intro k hk h
    cases rs with
    | nil => simp at h; omega
    | cons s rs =>
      rcases Nat.lt_or_ge 1 k with h1 | h1
      · obtain ⟨j, rfl⟩ : ∃ j, k = j + 2 := ⟨k - 2, by omega⟩
        have := ih (j + 1) (by omega) (by simpa using h)
        have e1 : rgaps ((r :: s :: rs).take (j + 2 + 1)) = (r.2 + 1, s.1 - 1) :: rgaps ((s :: rs).take (j + 1 + 1)) := rfl
        have e2 : rgaps ((r :: s :: rs).take (j + 2)) = (r.2 + 1, s.1 - 1) :: rgaps ((s :: rs).take (j + 1)) := rfl
        rw [e1, e2, this]; rfl
      · have : k = 1 := by omega
        subst this
        rfl
theorem rgaps_length : ∀ rs : List (Int × Int), (rgaps rs).length = rs.length - 1
  | [] => rfl
  | [_] => rfl
  | r :: s :: rs => by
    show (rgaps (s :: rs)).length + 1 = _
    rw [rgaps_length (s :: rs)]; simp
end Go.Proofs.Ytibnjbbiagjnjaa
