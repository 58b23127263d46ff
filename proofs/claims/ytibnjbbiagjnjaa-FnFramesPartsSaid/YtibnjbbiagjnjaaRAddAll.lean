/- Contracts of RangesAdd, the program's and the reference's. No condition but that the slice reads as the list. -/
import Derived.Test.YtibnjbbiagjnjaaRAdd2
namespace Go.Proofs.Ytibnjbbiagjnjaa
open Go.RowKit
set_option linter.unusedVariables false
def span (lo hi : Int) : Bool := decide (0 ≤ lo) && decide (lo ≤ hi) && decide (hi ≤ 999)
theorem span_iff (lo hi : Int) : span lo hi = true ↔ 0 ≤ lo ∧ lo ≤ hi ∧ hi ≤ 999 := by unfold span; simp [and_assoc]
/-- A list that is a set unless it has too many ranges. -/
def few (rs : List Rg) : List Rg × Bool := if rs.length ≤ 16 then (rs, true) else ([], false)
def addOf (rs : List Rg) (lo hi : Int) : List Rg × Bool := if rvalid rs && span lo hi then few (radd rs lo hi) else ([], false)
/-- The call gives a slice of its own that reads as p.1, and the Boolean p.2. -/
def PairPost (w : World) (p : List Rg × Bool) (e : Ending) (w' : World) : Prop := ∃ A c, e = .returned (.tuple #[.slice A p.1.length c, .bool p.2]) ∧ OwnRs w' w.heap.size A c p.1 ∧ Below w.heap.size w w'
theorem valid_of {F : FuncId} {args : Array Value} {w : World} {rs : List Rg} {b : Bool} (h : Calls Try.prog F args w (BoolPost w (rvalid rs))) (hb : rvalid rs = b) : Calls Try.prog F args w (BoolPost w b) := by rw [← hb]; exact h
theorem few_le {rs : List Rg} (h : rs.length ≤ 16) : few rs = (rs, true) := by unfold few; rw [if_pos h]
theorem few_gt {rs : List Rg} (h : 16 < rs.length) : few rs = ([], false) := by unfold few; rw [if_neg (by omega)]
theorem pair_none {w w' : World} {p : List Rg × Bool} (hp : p = ([], false)) (h : Below w.heap.size w w') : PairPost w p (.returned (.tuple #[.slice none 0 0, .bool false])) w' := by
  subst hp; exact ⟨none, 0, rfl, OwnRs.nil _ _, h⟩
theorem pair_empty {w w' : World} {p : List Rg × Bool} (hp : p = ([], false)) (h : Below w.heap.size w w') : PairPost w p (.returned (.tuple #[.slice (some ⟨w'.heap.size, 0, none⟩) 0 0, .bool false])) (w'.alloc (.cells #[] 53)) := by
  subst hp; exact ⟨_, 0, rfl, OwnRs.empty _ _ h.size, h.alloc h.size _⟩
theorem pair_list {w w' : World} {p : List Rg × Bool} {A : Option Addr} {c : Nat} {rs : List Rg} (hp : p = (rs, true)) (ho : OwnRs w' w.heap.size A c rs) (h : Below w.heap.size w w') : PairPost w p (.returned (.tuple #[.slice A rs.length c, .bool true])) w' := by
  subst hp; exact ⟨A, c, rfl, ho, h⟩
theorem row_any {w : World} {rs : List Rg} {e : Ending} {w' : World} (h : RowPost w rs e w') : ∃ A c qs, Hid (qs = rs) ∧ e = .returned (.slice A qs.length c) ∧ Hid (OwnRs w' w.heap.size A c qs) ∧ Hid (Below w.heap.size w w') := by
  obtain ⟨A, c, h1, h2, h3⟩ := h
  exact ⟨A, c, rs, rfl, h1, h2, h3⟩
end Go.Proofs.Ytibnjbbiagjnjaa
