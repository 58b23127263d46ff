/- Contracts of the drawn packet numbers. No condition but that the reader has not been asked too often. -/
import Derived.Test.YtnjonjbjpjodbaaPick
namespace Go.Proofs.Ytnjonjbjpjodbaa
open Go.RowKit
theorem CodeArg.below {w w' : World} {A : Option Addr} {len cap : Nat} (h : CodeArg w A len cap) (hb : Below w.heap.size w w') : CodeArg w' A len cap :=
  ⟨h.1, h.2.1, fun h0 => by
    obtain ⟨b, off, hA, hlt, hc⟩ := h.2.2 h0
    exact ⟨b, off, hA, Nat.lt_of_lt_of_le hlt hb.size, fun i hi => by
      obtain ⟨c, g1, g2, g3⟩ := hc i hi
      exact ⟨c, g1, g2, (hb.cell (p := ⟨b, off + i, none⟩) hlt).trans g3⟩⟩⟩
theorem drew2 {w w1 w2 : World} (h : Below w.heap.size w w1) (k : Below w1.heap.size w1 w2) : Below w.heap.size w w2 := h.trans (k.mono h.size)
theorem below_only {w w1 w2 : World} {r : Nat} (h : Below w.heap.size w w1) (hr : w.heap.size ≤ r) (k : w1.grownBy w2 (some r)) : Below w.heap.size w w2 :=
  h.grown k h.size (fun j hj => by injection hj with hj; omega)
def fullList : List Int := [-1, 0, 1, 127, 128, 255, 256, 998, 999, 1000]
theorem fullList_at (k : Nat) (h : k < 10) : ∃ v : Int, fullList[k]? = some v ∧ -1 ≤ v ∧ v ≤ 1000 := by
  have h2 : ∀ v ∈ fullList, -1 ≤ v ∧ v ≤ 1000 := by decide
  have hl : k < fullList.length := h
  exact ⟨fullList[k], List.getElem?_eq_getElem hl, h2 _ (List.getElem_mem hl)⟩
theorem cell_kept {w w1 : World} {ns : List Int} {t : TypeId} {r : Nat} (hG : (w.alloc (.cells (ns.map (Value.int .i64)).toArray t)).grownBy w1 (some r)) (hr : r < w.heap.size) (k : Nat) (v : Int) (hv : ns[k]? = some v) :
    w1.cell? ⟨w.heap.size, k, none⟩ = some (.int .i64 v) :=
  (only_cell hG (p := ⟨w.heap.size, k, none⟩) (by simp) (by simp; omega)).trans (cell_new w ns t k v hv)

set_option maxHeartbeats 400000 in
theorem full_any (w : World) (r N : Nat) (h : Rd w r N) (hN : N ≤ 1000000000000) :
    Calls Try.prog 29 #[.pointer (some ⟨r, 0, none⟩)] w (Drew w r (N + 3) (-1) 1000) := by
  have hr := h.lt
  have H := Lib.hid (h.alloc (.cells (fullList.map (Value.int .i64)).toArray 3))
  clear h
  go_enter Try.func29, Try.ntmps29
  go_wp2_with fail
  refine (pick_any _ r N 3 H.out (by omega) (by omega) (by omega)).mono ?_
  rintro e w1 ⟨m, rfl, hm0, hm1, hR, hG⟩
  have hR' := Lib.hid hR
  have hG' := Lib.hid (only_of_alloc hG)
  have hC := Lib.hid (cell_kept (ns := fullList) hG hr)
  have hz : w.heap.size < w1.heap.size := by have := hG.size; simp at this; omega
  clear hR hG
  by_cases hm : m = 0
  · subst hm
    go_wp2_with fail
    refine (pick_any _ r (N + 1) 10 hR'.out (by omega) (by omega) (by omega)).mono ?_
    rintro e w2 ⟨j, rfl, hj0, hj1, hR, hG⟩
    obtain ⟨i, rfl⟩ : ∃ i : Nat, j = i := ⟨j.toNat, by omega⟩
    have hi : i < 10 := by omega
    obtain ⟨v, hv, hv0, hv1⟩ := fullList_at i hi
    have hc := (only_cell hG (p := ⟨w.heap.size, i, none⟩) hz (by simp; omega)).trans (hC.out i v hv)
    have D := Lib.hid (show Drew w r (N + 3) (-1) 1000 (.returned (.int .i64 v)) w2 from ⟨v, rfl, hv0, hv1, hR.mono (by omega), only_trans hG'.out hG⟩)
    clear hR hG hv hv0 hv1
    go_wp2
    go_ret
    exact D.out
  · have hm' : (m == 0) = false := beq_eq_false_iff_ne.2 hm
    clear hm
    go_wp2_with fail
    refine (pick_any _ r (N + 1) 10 hR'.out (by omega) (by omega) (by omega)).mono ?_
    rintro e w2 ⟨a, rfl, ha0, ha1, hR, hG⟩
    have hR2 := Lib.hid hR
    have hG2 := Lib.hid (only_trans hG'.out hG)
    clear hR hG
    go_wp2_with fail
    refine (pick_any _ r (N + 1 + 1) 100 hR2.out (by omega) (by omega) (by omega)).mono ?_
    rintro e w3 ⟨b, rfl, hb0, hb1, hR, hG⟩
    have D := Lib.hid (show Drew w r (N + 3) (-1) 1000 (.returned (.int .i64 (100 * a + b))) w3 from ⟨_, rfl, by omega, by omega, hR.mono (by omega), only_trans hG2.out hG⟩)
    clear hR hG
    go_wp2
    go_ret
    exact D.out

/-- Two drawn numbers, three drawn numbers: within bounds, and nothing that was there has turned. -/
def Some2 (w : World) (e : Ending) (w' : World) : Prop := ∃ m k : Int, e = .returned (.tuple #[.int .i64 m, .int .i64 k]) ∧ -1000 ≤ m ∧ m ≤ 2000 ∧ -1000 ≤ k ∧ k ≤ 2000 ∧ Below w.heap.size w w'
def Some3 (w : World) (e : Ending) (w' : World) : Prop := ∃ m k j : Int, e = .returned (.tuple #[.int .i64 m, .int .i64 k, .int .i64 j]) ∧ -1000 ≤ m ∧ m ≤ 2000 ∧ -2000 ≤ k ∧ k ≤ 2000 ∧ 0 ≤ j ∧ j ≤ 18 ∧ Below w.heap.size w w'
theorem drawTrunc_any (A : Option Addr) (len cap : Nat) (w : World) (h : CodeArg w A len cap) : Calls Try.prog 20 #[.slice A len cap] w (Some2 w) := by
  go_enter Try.func20, Try.ntmps20
  go_wp2_with fail
  refine (open_any A len cap w h).mono ?_
  rintro e w1 ⟨r, rfl, hR, hB, hr⟩
  have hR' := Lib.hid hR
  clear hR
  go_wp2_with fail
  refine (full_any w1 r 0 hR'.out (by omega)).mono ?_
  rintro e w2 ⟨m, rfl, hm0, hm1, hR, hG⟩
  have hR2 := Lib.hid hR
  have hB2 := Lib.hid (below_only hB hr hG)
  clear hR hG hB
  go_wp2_with fail
  refine (pick_any _ r (0 + 3) 18 hR2.out (by omega) (by omega) (by omega)).mono ?_
  rintro e w3 ⟨b, rfl, hb0, hb1, hR, hG⟩
  have D := Lib.hid (show Some2 w (.returned (.tuple #[.int .i64 m, .int .i64 b])) w3 from ⟨m, b, rfl, by omega, by omega, by omega, by omega, below_only hB2.out hr hG⟩)
  clear hR hG
  go_wp2
  go_ret2
  exact D.out
theorem drawBits_any (A : Option Addr) (len cap : Nat) (w : World) (h : CodeArg w A len cap) : Calls Try.prog 21 #[.slice A len cap] w (Some2 w) := by
  go_enter Try.func21, Try.ntmps21
  go_wp2_with fail
  refine (open_any A len cap w h).mono ?_
  rintro e w1 ⟨r, rfl, hR, hB, hr⟩
  have hR' := Lib.hid hR
  clear hR
  go_wp2_with fail
  refine (full_any w1 r 0 hR'.out (by omega)).mono ?_
  rintro e w2 ⟨m, rfl, hm0, hm1, hR, hG⟩
  have hR2 := Lib.hid hR
  have hB2 := Lib.hid (below_only hB hr hG)
  clear hR hG hB
  go_wp2_with fail
  refine (pick_any _ r (0 + 3) 2 hR2.out (by omega) (by omega) (by omega)).mono ?_
  rintro e w3 ⟨a, rfl, ha0, ha1, hR, hG⟩
  have hR3 := Lib.hid hR
  have hB3 := Lib.hid (below_only hB2.out hr hG)
  clear hR hG
  go_wp2_with fail
  refine (pick_any _ r (0 + 3 + 1) 250 hR3.out (by omega) (by omega) (by omega)).mono ?_
  rintro e w4 ⟨b, rfl, hb0, hb1, hR, hG⟩
  have hR4 := Lib.hid hR
  have hB4 := Lib.hid (below_only hB3.out hr hG)
  clear hR hG
  have hp : 0 ≤ a * b ∧ a * b ≤ 250 := by
    have : a = 0 ∨ a = 1 := by omega
    rcases this with rfl | rfl
    · rw [Int.zero_mul]; omega
    · rw [Int.one_mul]; omega
  obtain ⟨p, hpp⟩ : ∃ p, a * b = p := ⟨_, rfl⟩
  rw [hpp] at hp
  go_wp2_with fail
  refine (pick_any _ r (0 + 3 + 1 + 1) 6 hR4.out (by omega) (by omega) (by omega)).mono ?_
  rintro e w5 ⟨c, rfl, hc0, hc1, hR, hG⟩
  have hB5 := Lib.hid (below_only hB4.out hr hG)
  clear hR hG
  have D : ∀ k : Int, -2 ≤ k → k ≤ 1000 → Some2 w (.returned (.tuple #[.int .i64 m, .int .i64 k])) w5 := fun k h1 h2 => ⟨m, k, rfl, by omega, by omega, by omega, by omega, hB5.out⟩
  have D' := Lib.hid D
  clear D
  go_wp2
  all_goals
    go_ret2
    exact D'.out _ (by omega) (by omega)
end Go.Proofs.Ytnjonjbjpjodbaa
