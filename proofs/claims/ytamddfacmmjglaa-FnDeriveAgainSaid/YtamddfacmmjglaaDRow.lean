/- A row of 21 Bools that shows the bits of a number. No condition beyond those in each theorem. -/
import Derived.Test.YtamddfacmmjglaaDSpec
namespace Go.Proofs.Ytamddfacmmjglaa
open Go.RowKit
set_option linter.unusedVariables false
theorem bool_info : (Try.prog.info? 4).map (fun i => (i.zero, i.size, i.bytes)) = some (some (.bool false), 1, 1) := by kernel_rfl
def brow (m : Nat) : List Value := (List.range 21).map fun i => Value.bool (m.testBit i)
theorem brow_len (m : Nat) : (brow m).length = 21 := by simp [brow]
theorem brow_at (m i : Nat) (h : i < 21) : (brow m)[i]? = some (.bool (m.testBit i)) := by unfold brow; rw [List.getElem?_map, List.getElem?_range h]; rfl
theorem brow_set (m : Nat) (x : Int) (h0 : 0 ≤ x) (h1 : x ≤ 20) : (brow m).set x.toNat (.bool true) = brow (put m x) := by
  apply List.ext_getElem?
  intro i
  by_cases hi : i < 21
  · rw [brow_at _ i hi]
    by_cases e : x.toNat = i
    · rw [e, List.getElem?_set_self (by rw [brow_len]; exact hi)]
      congr 2
      exact ((put_bit m x i).2 (.inr e)).symm
    · rw [List.getElem?_set_ne e, brow_at m i hi]
      congr 2
      rw [Bool.eq_iff_iff, put_bit]
      exact ⟨.inl, fun h => h.resolve_right e⟩
  · rw [List.getElem?_eq_none (by rw [List.length_set, brow_len]; omega), List.getElem?_eq_none (by rw [brow_len]; omega)]
/-- The block g holds the bits of m. -/
def HRow (w : World) (B g m : Nat) : Prop := w.ownsRow B 4 1 (.slice (some ⟨g, 0, none⟩) 21 21) 21 (brow m)
theorem make_row (W : World) : (Instr.makeSlice 55 (.int .i64 21) (.int .i64 21)).run Try.prog W = .ok (.slice (some ⟨W.heap.size, 0, none⟩) 21 21) (W.alloc (.cells (brow 0).toArray 4)) := by
  obtain ⟨i, hi, hz, h1, h2⟩ := info_parts bool_info
  have hr := run_make (P := Try.prog) W 55 4 i (.bool false) Try.underlying55 hi hz .i64 .i64 21 21 (by omega) (by omega) (by rw [h2]; omega) (by omega)
  have e : madeCells (Value.bool false).cells 21 = (brow 0).toArray := by
    unfold madeCells
    apply Array.ext
    · simp [brow_len]
    · intro j k1 k2
      simp [Value.cells, Nat.mod_one, brow]
  rw [hr, h1]
  show Result.ok (Value.slice (some ⟨W.heap.size, 0, none⟩) 21 21) (W.alloc (.cells (madeCells (Value.bool false).cells 21) 4)) = _
  rw [e]
theorem HRow.made (w : World) : HRow (w.alloc (.cells (brow 0).toArray 4)) w.heap.size w.heap.size 0 :=
  World.ownsRow_lit (base := w.heap.size) (e := 4) (size := 1) w (brow 0).toArray 21 (Nat.le_refl _) (by unfold maxLen; omega) (by simp [brow_len])
theorem HRow.cell {w : World} {B g m : Nat} (h : HRow w B g m) (i : Nat) (hi : i < 21) : w.cell? ⟨g, i, none⟩ = some (.bool (m.testBit i)) ∧ w.frozen? ⟨g, i, none⟩ = false := by
  refine ⟨?_, World.ownsRow.frozenAt h i⟩
  rw [World.ownsRow.cellAt h i (by omega), brow_at m i hi]
theorem HRow.stored {w : World} {B g m : Nat} (h : HRow w B g m) (x : Int) (h0 : 0 ≤ x) (h1 : x ≤ 20) : HRow (w.setCell ⟨g, x.toNat, none⟩ (.bool true)) B g (put m x) := by
  have := (World.ownsRow.stored h x.toNat (.bool true)).1
  rw [brow_set m x h0 h1] at this
  exact this
end Go.Proofs.Ytamddfacmmjglaa
