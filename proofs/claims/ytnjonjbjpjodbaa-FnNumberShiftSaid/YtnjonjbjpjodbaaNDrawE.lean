/- The contract of the drawn arguments of an expansion. No condition. -/
import Derived.Test.YtnjonjbjpjodbaaNDraw
namespace Go.Proofs.Ytnjonjbjpjodbaa
open Go.RowKit
/-- Powers of two, kept from the walk. -/
def p2 (k : Nat) : Int := 2 ^ k
theorem p2_zero : p2 0 = 1 := rfl
theorem p2_succ (k : Nat) : p2 (k + 1) = 2 * p2 k := by unfold p2; rw [Int.pow_succ, Int.mul_comm]
theorem p2_bd : ∀ k, k ≤ 17 → 1 ≤ p2 k ∧ p2 k ≤ 131072 := by decide
theorem emod_le (x s : Int) (hx : 0 ≤ x) (hs : 1 ≤ s) : x % s ≤ x := by
  obtain ⟨a, rfl⟩ : ∃ a : Nat, x = a := ⟨x.toNat, by omega⟩
  obtain ⟨b, rfl⟩ : ∃ b : Nat, s = b := ⟨s.toNat, by omega⟩
  have := Nat.mod_le a b
  omega
def bitList (p : Int) : List Int := [4, 8, 8, 12, 16, p]
theorem bitList_at (p : Int) (h0 : 0 ≤ p) (h1 : p < 18) (k : Nat) (h : k < 6) : ∃ v : Int, (bitList p)[k]? = some v ∧ 0 ≤ v ∧ v ≤ 18 := by
  have hl : k < (bitList p).length := h
  have h2 : ∀ v ∈ bitList p, 0 ≤ v ∧ v ≤ 18 := by
    intro v hv
    simp only [bitList, List.mem_cons, List.not_mem_nil, or_false] at hv
    omega
  exact ⟨(bitList p)[k], List.getElem?_eq_getElem hl, h2 _ (List.getElem_mem hl)⟩

set_option maxHeartbeats 1600000 in
theorem drawExp_any (A : Option Addr) (len cap : Nat) (w : World) (h : CodeArg w A len cap) : Calls Try.prog 22 #[.slice A len cap] w (Some3 w) := by
  go_enter Try.func22, Try.ntmps22
  go_wp2_with fail
  refine (open_any A len cap w h).mono ?_
  rintro e w1 ⟨r, rfl, hR, hB, hr⟩
  have hR' := Lib.hid hR
  clear hR
  go_wp2_with fail
  refine (full_any w1 r 0 hR'.out (by omega)).mono ?_
  rintro e w2 ⟨m, rfl, hm0, hm1, hR, hG⟩
  have hR2 := Lib.hid hR
  have hB2 := Lib.hid (below_only hB hr hG)
  clear hR hG hB
  go_wp2_with fail
  refine (pick_any _ r (0 + 3) 18 hR2.out (by omega) (by omega) (by omega)).mono ?_
  rintro e w3 ⟨p, rfl, hp0, hp1, hR, hG⟩
  have hrl := hR.lt
  have hR3 := Lib.hid (hR.alloc (.cells ((bitList p).map (Value.int .i64)).toArray 3))
  have hB3 := Lib.hid (below_only hB2.out hr hG)
  clear hR hG
  go_wp2_with fail
  refine (pick_any _ r (0 + 3 + 1) 6 hR3.out (by omega) (by omega) (by omega)).mono ?_
  rintro e w4 ⟨ii, rfl, hi0, hi1, hR, hG⟩
  obtain ⟨i, rfl⟩ : ∃ i : Nat, ii = i := ⟨ii.toNat, by omega⟩
  have hi : i < 6 := by omega
  obtain ⟨b, hb, hb0, hb1⟩ := bitList_at p hp0 hp1 i hi
  have hc := cell_kept (ns := bitList p) hG hrl i b hb
  have hR4 := Lib.hid hR
  have hB4 := Lib.hid (below_only (hB3.out.alloc hB3.out.size _) hr hG)
  clear hR hG hb
  go_wp2_with fail
  refine (pick_any _ r (0 + 3 + 1 + 1) 6 hR4.out (by omega) (by omega) (by omega)).mono ?_
  rintro e w5 ⟨t, rfl, ht0, ht1, hR, hG⟩
  have hR5 := Lib.hid hR
  have hB5 := Lib.hid (below_only hB4.out hr hG)
  clear hR hG hc hp0 hp1 hrl hi0 hi1 hi
  have fin : ∀ (w6 : World) (v : Int), Below w.heap.size w w6 → -2000 ≤ v → v ≤ 2000 → Some3 w (.returned (.tuple #[.int .i64 m, .int .i64 v, .int .i64 b])) w6 :=
    fun w6 v hB6 h1 h2 => ⟨m, v, b, rfl, by omega, by omega, by omega, by omega, by omega, by omega, hB6⟩
  have FIN := Lib.hid fin
  clear fin
  by_cases hx : 0 ≤ m - 2 + t
  all_goals
    by_cases hb2 : 0 < b ∧ b < 17
    · obtain ⟨hb2, hb3⟩ := hb2
      obtain ⟨bn, rfl⟩ : ∃ bn : Nat, b = bn := ⟨b.toNat, by omega⟩
      go_wp2_with fail
      refine wp_loop_rounds 2 ?_
      rw [rounds_succ]
      go_wp2_with fail
      go_loop [10, 11] (fun s k => ∃ j : Nat, j ≤ bn ∧ k = .int .i64 j ∧ s = .int .i64 (p2 j)) (fun _ k => 17 - (intOf k).toNat)
      case atStart => exact ⟨0, Nat.zero_le _, rfl, rfl⟩
      case round =>
        obtain ⟨j, hj, rfl, rfl⟩ := hrel
        have hp := p2_bd j (by omega)
        by_cases hlt : j < bn
        · have hs := Lib.hid (p2_succ j)
          go_wp2_with fail
          go_round
          case rel => exact ⟨j + 1, by omega, by go_num, by rw [hs.out]⟩
          case measure => simp [intOf]; omega
        · obtain rfl : j = bn := by omega
          generalize p2 j = s at hp
          have v0 : 0 ≤ (m - 2 + t) % s := Int.emod_nonneg _ (by omega)
          have v1 : 0 ≤ m - 2 + t → (m - 2 + t) % s ≤ m - 2 + t := fun h => emod_le _ _ h (by omega)
          have v2 : 0 ≤ m - 2 + t → (m - 2 + t) % s ≤ 1100 := fun h => by have := v1 h; omega
          have V := Lib.hid v2
          clear v1 v2
          first
            | (have v2 := V.out hx
               go_wp2_with fail
               rw [rounds_succ]
               go_wp2_with fail
               refine (pick_any _ r (0 + 3 + 1 + 1 + 1) 12 hR5.out (by omega) (by omega) (by omega)).mono ?_
               rintro e w6 ⟨q, rfl, hq0, hq1, hR, hG⟩
               have hB6 := Lib.hid (below_only hB5.out hr hG)
               clear hR hG
               go_wp2
               go_ret3
               exact FIN.out w6 _ hB6.out (by omega) (by omega))
            | (go_wp2_with fail
               rw [rounds_succ]
               go_wp2_with fail
               refine (pick_any _ r (0 + 3 + 1 + 1 + 1) 12 hR5.out (by omega) (by omega) (by omega)).mono ?_
               rintro e w6 ⟨q, rfl, hq0, hq1, hR, hG⟩
               have hB6 := Lib.hid (below_only hB5.out hr hG)
               clear hR hG
               go_wp2
               go_ret3
               exact FIN.out w6 _ hB6.out (by omega) (by omega))
    · have hb3 : b ≤ 0 ∨ 17 ≤ b := by omega
      clear hb2
      rcases hb3 with hb3 | hb3
      all_goals
        go_wp2_with fail
        refine wp_loop_rounds 2 ?_
        rw [rounds_succ]
        go_wp2_with fail
        rw [rounds_succ]
        go_wp2_with fail
        refine (pick_any _ r (0 + 3 + 1 + 1 + 1) 12 hR5.out (by omega) (by omega) (by omega)).mono ?_
        rintro e w6 ⟨q, rfl, hq0, hq1, hR, hG⟩
        have hB6 := Lib.hid (below_only hB5.out hr hG)
        clear hR hG
        go_wp2
        go_ret3
        exact FIN.out w6 _ hB6.out (by omega) (by omega)
end Go.Proofs.Ytnjonjbjpjodbaa
