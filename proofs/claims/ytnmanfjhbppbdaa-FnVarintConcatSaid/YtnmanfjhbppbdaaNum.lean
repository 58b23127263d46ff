/- The contract of a drawn number. No condition but that the reader has not been asked too often. -/
import Derived.Test.YtnmanfjhbppbdaaPick
namespace Go.Proofs.Ytnmanfjhbppbdaa
open Go.RowKit
def numList : List Int := [-1, 0, 1, 62, 63, 64, 65, 16382, 16383, 16384, 999999, 1000000]
theorem numList_at (k : Nat) (h : k < 12) : ∃ v : Int, numList[k]? = some v ∧ -1 ≤ v ∧ v ≤ 1000000 := by
  have h2 : ∀ v ∈ numList, -1 ≤ v ∧ v ≤ 1000000 := by decide
  have hl : k < numList.length := h
  exact ⟨numList[k], List.getElem?_eq_getElem hl, h2 _ (List.getElem_mem hl)⟩
/-- What a drawn number is, digit pair by digit pair. -/
def NumAt (k : Nat) (x : Int) : Prop := 0 ≤ x ∧ (k = 0 ∧ x ≤ 0 ∨ k = 1 ∧ x ≤ 99 ∨ k = 2 ∧ x ≤ 9999 ∨ k = 3 ∧ x ≤ 999999)

set_option maxHeartbeats 400000 in
theorem num_any (w : World) (r N : Nat) (h : Rd w r N) (hN : N ≤ 1000000000000) :
    Calls Try.prog 47 #[.pointer (some ⟨r, 0, none⟩)] w (Drew w r (N + 20) (-1) 1000000) := by
  have hr := h.lt
  have H := Lib.hid (h.alloc (.cells (numList.map (Value.int .i64)).toArray 3))
  have CN := Lib.hid (cell_new w numList 3)
  go_enter Try.func47, Try.ntmps47
  go_wp2_with fail
  refine (pick_any _ r N 2 H.out (by omega) (by omega) (by omega)).mono ?_
  rintro e w1 ⟨m, rfl, hm0, hm1, hR, hG⟩
  have hR' := Lib.hid hR
  have hG' := Lib.hid (only_of_alloc hG)
  have hC : ∀ k v, numList[k]? = some v → w1.cell? ⟨w.heap.size, k, none⟩ = some (.int .i64 v) := fun k v hv =>
    (only_cell hG (p := ⟨w.heap.size, k, none⟩) (by simp) (by simp; omega)).trans (CN.out k v hv)
  have hC' := Lib.hid hC
  have hz : w.heap.size < w1.heap.size := by have := hG.size; simp at this; omega
  clear hR hG hC
  by_cases hm : m = 0
  · subst hm
    go_wp2_with fail
    refine (pick_any _ r (N + 1) 12 hR'.out (by omega) (by omega) (by omega)).mono ?_
    rintro e w2 ⟨j, rfl, hj0, hj1, hR, hG⟩
    obtain ⟨i, rfl⟩ : ∃ i : Nat, j = i := ⟨j.toNat, by omega⟩
    have hi : i < 12 := by omega
    obtain ⟨v, hv, hv0, hv1⟩ := numList_at i hi
    have hc := (only_cell hG (p := ⟨w.heap.size, i, none⟩) hz (by simp; omega)).trans (hC'.out i v hv)
    have D := Lib.hid (show Drew w r (N + 20) (-1) 1000000 (.returned (.int .i64 v)) w2 from ⟨v, rfl, hv0, hv1, hR.mono (by omega), only_trans hG'.out hG⟩)
    clear hR hG hv hv0 hv1
    go_wp2
    go_ret
    exact D.out
  · have hm' : m = 1 := by omega
    subst hm'
    go_wp2_with fail
    go_loopw [4, 5] (fun n i wr => ∃ (k : Nat) (x : Int), k ≤ 3 ∧ i = .int .i64 k ∧ n = .int .i64 x ∧ Hid (NumAt k x) ∧ Hid (Rd wr r (N + 1 + 2 * k)) ∧ Hid (w.grownBy wr (some r))) (fun _ i _ => 4 - (intOf i).toNat)
    case atStart => exact ⟨0, 0, by omega, rfl, rfl, ⟨by omega, by omega⟩, hR'.out, hG'.out⟩
    case round =>
      obtain ⟨k, x, hk, rfl, rfl, hx, hR, hG⟩ := hrel
      go_wp2_with fail
      refine (pick_any _ r (N + 1 + 2 * k) 3 hR.out (by omega) (by omega) (by omega)).mono ?_
      rintro e w2 ⟨t, rfl, ht0, ht1, hR2, hG2⟩
      have hR2' := Lib.hid hR2
      have hG2' := Lib.hid (only_trans hG.out hG2)
      clear hR2 hG2
      have hx0 := hx.out.1
      have hx1 : x ≤ 999999 := by have := hx.out.2; omega
      by_cases hlt : (k : Int) < 1 + t
      · go_wp2_with fail
        refine (pick_any _ r (N + 1 + 2 * k + 1) 100 hR2'.out (by omega) (by omega) (by omega)).mono ?_
        rintro e w3 ⟨u, rfl, hu0, hu1, hR3, hG3⟩
        have hR3' := Lib.hid (hR3.mono (show N + 1 + 2 * k + 1 + 1 ≤ N + 1 + 2 * (k + 1) by omega))
        have hG3' := Lib.hid (only_trans hG2'.out hG3)
        have hn : Hid (NumAt (k + 1) (x * 100 + u)) := by
          have h1 := hx.out.2
          refine ⟨by omega, ?_⟩
          omega
        clear hR3 hG3
        go_wp2
        go_roundw
        case rel => exact ⟨k + 1, x * 100 + u, by omega, by go_num, rfl, hn, hR3', hG3'⟩
        case measure => simp [intOf]; omega
      · have D := Lib.hid (show Drew w r (N + 20) (-1) 1000000 (.returned (.int .i64 x)) w2 from ⟨x, rfl, by omega, by omega, hR2'.out.mono (by omega), hG2'.out⟩)
        go_wp2
        go_ret
        exact D.out

/-! ### the draws of a law's input -/
def SomeInt (w : World) (e : Ending) (w' : World) : Prop := ∃ m : Int, e = .returned (.int .i64 m) ∧ Below w.heap.size w w'
theorem drawLen_any (A : Option Addr) (len cap : Nat) (w : World) (h : CodeArg w A len cap) : Calls Try.prog 28 #[.slice A len cap] w (SomeInt w) := by
  go_enter Try.func28, Try.ntmps28
  go_wp2_with fail
  refine (open_any A len cap w h).mono ?_
  rintro e w1 ⟨r, rfl, hR, hB, hr⟩
  have hR' := Lib.hid hR
  clear hR
  go_wp2_with fail
  refine (num_any w1 r 0 hR'.out (by omega)).mono ?_
  rintro e w2 ⟨m, rfl, _, _, _, hG⟩
  have D := Lib.hid (show SomeInt w (.returned (.int .i64 m)) w2 from ⟨m, rfl, below_only hB hr hG⟩)
  clear hG
  go_wp2
  go_ret
  exact D.out
theorem drawEnc_any (A : Option Addr) (len cap : Nat) (w : World) (h : CodeArg w A len cap) : Calls Try.prog 34 #[.slice A len cap] w (SomeInt w) := by
  go_enter Try.func34, Try.ntmps34
  go_wp2_with fail
  refine (open_any A len cap w h).mono ?_
  rintro e w1 ⟨r, rfl, hR, hB, hr⟩
  have hR' := Lib.hid hR
  clear hR
  go_wp2_with fail
  refine (num_any w1 r 0 hR'.out (by omega)).mono ?_
  rintro e w2 ⟨m, rfl, _, _, _, hG⟩
  have D := Lib.hid (show SomeInt w (.returned (.int .i64 m)) w2 from ⟨m, rfl, below_only hB hr hG⟩)
  clear hG
  go_wp2
  go_ret
  exact D.out
end Go.Proofs.Ytnmanfjhbppbdaa
