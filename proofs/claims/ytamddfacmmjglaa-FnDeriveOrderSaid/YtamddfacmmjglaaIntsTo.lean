/- The contract of the laws' copy of a slice of integers. No condition but a bound on its length. -/
import Derived.Test.YtamddfacmmjglaaIntsEq
import Derived.Laws.MakeOwn
namespace Go.Proofs.Ytamddfacmmjglaa
open Go.RowKit
/-- The cells that 'make([]int, n)' lays. -/
def zeroRow (n : Nat) : Array Value := (List.replicate n (Value.int .i64 0)).toArray
theorem madeCells_int (n : Nat) : madeCells (Value.int .i64 0).cells n = zeroRow n := by
  unfold madeCells zeroRow
  apply Array.ext
  · simp
  · intro i h1 h2
    simp [Value.cells, Nat.mod_one]
theorem make_ints (n : Nat) (hn : n ≤ 1000000000) (W : World) : (Instr.makeSlice 30 (.int .i64 (n : Int)) (.int .i64 (n : Int))).run Try.prog W = .ok (.slice (some ⟨W.heap.size, 0, none⟩) n n) (W.alloc (.cells (zeroRow n) 3)) := by
  obtain ⟨i, hi, hz, h1, h2⟩ := info_parts int_info
  have hb : (i.bytes : Int) * (n : Int) ≤ 281474976710656 := by rw [h2]; omega
  have hr := run_make (P := Try.prog) W 30 3 i (.int .i64 0) Try.underlying30 hi hz .i64 .i64 n n (by omega) (by omega) hb (by omega)
  simp only [Int.toNat_natCast] at hr
  rw [hr, h1, Nat.mul_one, madeCells_int]
/-- The first k copied, the rest still nought. -/
def copied (k : Nat) (xs : List Int) : List Int := xs.take k ++ List.replicate (xs.length - k) 0
theorem copied_length (k : Nat) (xs : List Int) (h : k ≤ xs.length) : (copied k xs).length = xs.length := by unfold copied; simp; omega
theorem copied_succ (k : Nat) (xs : List Int) (h : k < xs.length) : copied (k + 1) xs = (copied k xs).set k (xs.getD k 0) := by
  unfold copied
  rw [List.take_succ_eq_append_getElem h, List.set_append_right _ _ (by simp; omega), List.append_assoc]
  have e : xs.length - k = (xs.length - (k + 1)) + 1 := by omega
  rw [e, List.replicate_succ]
  have e2 : k - (xs.take k).length = 0 := by simp; omega
  rw [e2, List.set_cons_zero, List.getD_eq_getElem?_getD, List.getElem?_eq_getElem h]; rfl
theorem copied_all (xs : List Int) : copied xs.length xs = xs := by unfold copied; simp
theorem own_zero (w : World) (xs : List Int) (hn : xs.length ≤ 1000000000) : OwnInts (w.alloc (.cells (zeroRow xs.length) 3)) w.heap.size (some ⟨w.heap.size, 0, none⟩) xs.length (copied 0 xs) := by
  have h := World.ownsRow_lit (base := w.heap.size) (e := 3) (size := 1) w (zeroRow xs.length) xs.length (Nat.le_refl _) (by unfold maxLen; omega) (by unfold zeroRow; simp)
  unfold OwnInts
  have e : (copied 0 xs).length = xs.length := copied_length 0 xs (by omega)
  rw [e]
  have e2 : (copied 0 xs).map (Value.int .i64) = (zeroRow xs.length).toList := by unfold copied zeroRow; simp
  rw [e2]
  exact h
def CopyPost (w : World) (xs : List Int) (e : Ending) (w' : World) : Prop :=
  ∃ A c, e = .returned (.slice A xs.length c) ∧ OwnInts w' w.heap.size A c xs ∧ Below w.heap.size w w'
set_option maxHeartbeats 400000 in
theorem toInts_any (B : Nat) (A : Option Addr) (xs : List Int) (c : Nat) (w : World) (h : IntsIn w B A xs) (hBw : B ≤ w.heap.size) (hm : xs.length ≤ 1000000000) :
    Calls Try.prog 36 #[.slice A xs.length c] w (CopyPost w xs) := by
  have H := Lib.hid h
  clear h
  have hmk := fun W => make_ints xs.length hm W
  have O0 := Lib.hid (own_zero w xs hm)
  go_enter Try.func36, Try.ntmps36
  go_wp2_with fail
  go_loopw [4] (fun i wr => ∃ k : Nat, k ≤ xs.length ∧ i = .int .i64 k ∧ Hid (OwnInts wr w.heap.size (some ⟨w.heap.size, 0, none⟩) xs.length (copied k xs)) ∧ Hid (Below w.heap.size w wr)) (fun i _ => xs.length - (intOf i).toNat)
  case atStart => exact ⟨0, Nat.zero_le _, rfl, O0.out, (Below.refl _ _).alloc (Nat.le_refl _) _⟩
  case round =>
    obtain ⟨k, hk, rfl, hO, hB⟩ := hrel
    by_cases hlt : k < xs.length
    · obtain ⟨b, off, rfl, hbB, hc⟩ := (H.out.below (hB.out.mono hBw)) (by omega)
      have g1 := hc k hlt
      clear hc
      have hl := Lib.hid (copied_length k xs hk)
      obtain ⟨g, hgA, hg, hgl, hc⟩ := hO.out.cell (by rw [hl.out]; omega)
      injection hgA with hgA
      injection hgA with hgA
      subst hgA
      have g2 := hc k (by rw [hl.out]; omega)
      clear hc
      have f1 : wr.frozen? ⟨w.heap.size, k, none⟩ = false := by
        have := hO.out
        unfold OwnInts at this
        exact World.ownsRow.frozenAt this k
      have hne : b ≠ w.heap.size := by omega
      have hO2 := Lib.hid (show OwnInts (wr.setCell ⟨w.heap.size, k, none⟩ (.int .i64 (xs.getD k 0))) w.heap.size (some ⟨w.heap.size, 0, none⟩) xs.length (copied (k + 1) xs) by rw [copied_succ k xs hlt]; exact hO.out.stored k _)
      have hB2 := Lib.hid (hB.out.setCell (p := ⟨w.heap.size, k, none⟩) (Nat.le_refl _) (.int .i64 (xs.getD k 0)))
      generalize (copied k xs).getD k 0 = y at g2
      generalize xs.getD k 0 = x at g1 hO2 hB2
      go_wp2_with fail
      go_roundw
      case rel => exact ⟨k + 1, by omega, by go_num, hO2.out, hB2.out⟩
      case measure => simp [intOf]; omega
    · have hk' : k = xs.length := by omega
      have D := Lib.hid (show CopyPost w xs (.returned (.slice (some ⟨w.heap.size, 0, none⟩) xs.length xs.length)) wr by
        refine ⟨_, _, rfl, ?_, hB.out⟩
        have := hO.out
        rw [hk', copied_all] at this
        exact this)
      clear hk'
      go_wp2_with fail
      go_ret
      exact D.out
end Go.Proofs.Ytamddfacmmjglaa
