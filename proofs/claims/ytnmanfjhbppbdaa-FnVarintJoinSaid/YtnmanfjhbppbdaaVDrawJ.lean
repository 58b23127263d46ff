/- The contract of the drawn list of integers. No condition. -/
import Derived.Test.YtnmanfjhbppbdaaNum
import Derived.Test.YtnmanfjhbppbdaaIntsEq
namespace Go.Proofs.Ytnmanfjhbppbdaa
open Go.RowKit
def SomeInts (w : World) (e : Ending) (w' : World) : Prop :=
  ∃ A c xs, e = .returned (.slice A xs.length c) ∧ xs.length ≤ 10 ∧ IntsIn w' w'.heap.size A xs ∧ Below w.heap.size w w'
theorem own_empty (w : World) (B : Nat) (hB : B ≤ w.heap.size) : OwnInts (w.alloc (.cells #[] 3)) B (some ⟨w.heap.size, 0, none⟩) 0 [] :=
  World.ownsRow_lit w #[] 0 hB (by unfold maxLen; omega) rfl
theorem own_block {w : World} {B : Nat} {A : Option Addr} {c : Nat} {xs : List Int} (h : OwnInts w B A c xs) : ∀ k, (Value.slice A xs.length c).ownBlock = some k → B ≤ k := fun k hk => (World.ownsRow.lt h k hk).1
set_option maxHeartbeats 800000 in
theorem drawJoin_any (A : Option Addr) (len cap : Nat) (w : World) (h : CodeArg w A len cap) : Calls Try.prog 42 #[.slice A len cap] w (SomeInts w) := by
  go_enter Try.func42, Try.ntmps42
  go_wp2_with fail
  refine (open_any A len cap w h).mono ?_
  rintro e w1 ⟨r, rfl, hR, hB, hr⟩
  have hrl := hR.lt
  have R0 := Lib.hid (hR.alloc (.cells #[] 3))
  have O0 := Lib.hid (own_empty w1 w1.heap.size (Nat.le_refl _))
  have B0 := Lib.hid (hB.alloc hB.size (.cells #[] 3))
  have hs0 := hB.size
  clear hR hB
  go_wp2_with fail
  go_loopw [4, 5] (fun o i wr => ∃ (k : Nat) (A : Option Addr) (c : Nat) (xs : List Int), k ≤ 5 ∧ i = .int .i64 k ∧ o = .slice A xs.length c ∧ xs.length ≤ 10 ∧ xs.length ≤ k ∧ Hid (OwnInts wr w1.heap.size A c xs) ∧ Hid (Rd wr r (30 * k)) ∧ Hid (Below w.heap.size w wr) ∧ w1.heap.size ≤ wr.heap.size) (fun _ i _ => 6 - (intOf i).toNat)
  case atStart => exact ⟨0, _, 0, [], by omega, rfl, rfl, by simp, by simp, O0.out, R0.out, B0.out, by simp⟩
  case round =>
    obtain ⟨k, A, c, xs, hk, rfl, rfl, hl, hlk, hO, hR, hB, hz⟩ := hrel
    go_wp2_with fail
    refine (pick_any _ r (30 * k) 6 hR.out (by omega) (by omega) (by omega)).mono ?_
    rintro e w2 ⟨t, rfl, ht0, ht1, hR2, hG2⟩
    have O2 := Lib.hid (hO.out.kept hG2 (by rintro j ⟨⟩; exact hrl))
    have R2 := Lib.hid hR2
    have B2 := Lib.hid (below_only hB.out hr hG2)
    have z2 : w1.heap.size ≤ w2.heap.size := Nat.le_trans hz hG2.size
    clear hR2 hG2 hz
    by_cases hlt : (k : Int) < t
    · go_wp2_with fail
      refine (num_any _ r (30 * k + 1) R2.out (by omega)).mono ?_
      rintro e w3 ⟨n, rfl, _, _, hR3, hG3⟩
      have O3 := Lib.hid ((O2.out.kept hG3 (by rintro j ⟨⟩; exact hrl)).alloc (.cells #[.int .i64 n] 3))
      have R3 := Lib.hid (hR3.alloc (.cells #[.int .i64 n] 3))
      have B3 := Lib.hid ((below_only B2.out hr hG3).alloc (Nat.le_trans hs0 (Nat.le_trans z2 hG3.size)) (.cells #[.int .i64 n] 3))
      have z3 : w1.heap.size ≤ w3.heap.size := Nat.le_trans z2 hG3.size
      have z3' : w1.heap.size ≤ (w3.alloc (.cells #[.int .i64 n] 3)).heap.size := by simp; omega
      have hcell : (w3.alloc (.cells #[.int .i64 n] 3)).cell? ⟨w3.heap.size, 0, none⟩ = some (.int .i64 n) := cell_lit w3 [.int .i64 n] 3 0 _ rfl
      have hob := Lib.hid (own_block O3.out)
      clear hR3 hG3
      go_wp2_with (at_builtin; refine wpList_append_int rfl (.tmp 15) (.tmp 18) rfl w1.heap.size A c xs rfl O3.out w3.heap.size n rfl hcell (by omega) z3' ?_; intro A' c' w4 hO4 hg4 hB4)
      have O4 := Lib.hid hO4
      have R4 := Lib.hid ((R3.out.grown hg4 (fun j hj => by have := hob.out j hj; omega)).mono (show 30 * k + 1 + 20 ≤ 30 * (k + 1) by omega))
      have B4 := Lib.hid (B3.out.trans (hB4.mono hs0))
      have z4 : w1.heap.size ≤ w4.heap.size := Nat.le_trans z3' hg4.size
      clear hO4 hg4 hB4
      go_wp2
      go_roundw
      case rel => exact ⟨k + 1, A', c', xs ++ [n], by omega, by go_num, by simp, by simp; omega, by simp; omega, O4.out, R4.out, B4.out, z4⟩
      case measure => simp [intOf]; omega
    · have D := Lib.hid (show SomeInts w (.returned (.slice A xs.length c)) w2 from ⟨A, c, xs, rfl, hl, O2.out.in_, B2.out⟩)
      go_wp2
      go_ret
      exact D.out
end Go.Proofs.Ytnmanfjhbppbdaa
