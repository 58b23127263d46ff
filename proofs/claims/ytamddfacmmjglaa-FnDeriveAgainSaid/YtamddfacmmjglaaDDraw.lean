/- Contracts of the drawn boxes and known atoms. No condition but that the reader has not been asked too often. -/
import Derived.Test.YtamddfacmmjglaaDSList
import Derived.Test.YtamddfacmmjglaaPick
import Derived.Deep.RegionHeld3
import Derived.Deep.RegionHeldLaw
namespace Go.Proofs.Ytamddfacmmjglaa
open Go.RowKit
set_option linter.unusedVariables false
def atomList : List Int := [0, 20, 21, -1]
theorem atomList_at (k : Nat) (h : k < 4) : ∃ v : Int, atomList[k]? = some v ∧ -1 ≤ v ∧ v ≤ 21 := by
  have h2 : ∀ v ∈ atomList, -1 ≤ v ∧ v ≤ 21 := by decide
  have hl : k < atomList.length := h
  exact ⟨atomList[k], List.getElem?_eq_getElem hl, h2 _ (List.getElem_mem hl)⟩
set_option maxHeartbeats 800000 in
theorem atom_any (w : World) (r N : Nat) (h : Rd w r N) (hN : N ≤ 1000000000) :
    Calls Try.prog 39 #[.pointer (some ⟨r, 0, none⟩)] w (Drew w r (N + 2) (-1) 21) := by
  have hr := h.lt
  have H := Lib.hid h
  clear h
  go_enter Try.func39, Try.ntmps39
  go_wp2_with fail
  refine (pick_any _ r N 30 H.out (by omega) (by omega) (by omega)).mono ?_
  rintro e w1 ⟨m, rfl, hm0, hm1, hR, hG⟩
  have hr1 := hR.lt
  have G1 := Lib.hid hG
  have R1 := Lib.hid hR
  clear hR hG
  by_cases hm : m = 0
  · subst hm
    have R1' := Lib.hid (R1.out.alloc (.cells (atomList.map (Value.int .i64)).toArray 3))
    go_wp2_with fail
    refine (pick_any _ r (N + 1) 4 R1'.out (by omega) (by omega) (by omega)).mono ?_
    rintro e w2 ⟨j, rfl, hj0, hj1, hR, hG⟩
    obtain ⟨i, rfl⟩ : ∃ i : Nat, j = i := ⟨j.toNat, by omega⟩
    have hi : i < 4 := by omega
    obtain ⟨v, hv, hv0, hv1⟩ := atomList_at i hi
    have hc := cell_kept (ns := atomList) hG hr1 i v hv
    have D := Lib.hid (show Drew w r (N + 2) (-1) 21 (.returned (.int .i64 v)) w2 from ⟨v, rfl, hv0, hv1, hR.mono (by omega), only_trans G1.out (only_of_alloc hG)⟩)
    clear hR hG hv hv0 hv1
    go_wp2
    go_ret
    exact D.out
  · have hm' : (m == 0) = false := beq_eq_false_iff_ne.2 hm
    clear hm
    go_wp2_with fail
    refine (pick_any _ r (N + 1) 9 R1.out (by omega) (by omega) (by omega)).mono ?_
    rintro e w2 ⟨a, rfl, ha0, ha1, hR, hG⟩
    have D := Lib.hid (show Drew w r (N + 2) (-1) 21 (.returned (.int .i64 (1 + a))) w2 from ⟨_, rfl, by omega, by omega, hR.mono (by omega), only_trans G1.out hG⟩)
    clear hR hG
    go_wp2
    go_ret
    exact D.out
def DrewInts (w : World) (r N : Nat) (e : Ending) (w' : World) : Prop := ∃ A c xs, e = .returned (.slice A xs.length c) ∧ xs.length ≤ 10 ∧ OwnInts w' w.heap.size A c xs ∧ Rd w' r N ∧ w.grownBy w' (some r)
/-- What turns only blocks of its own, or those of a row behind w1, leaves w1's blocks but r's. -/
theorem only_far {w1 w2 w3 : World} {row : Option Nat} {r : Nat} (h : w1.grownBy w2 (some r)) (k : w2.grownBy w3 row) (hr : ∀ g, row = some g → w1.heap.size ≤ g) : w1.grownBy w3 (some r) :=
  ⟨k.os.trans h.os, k.tape.trans h.tape, k.output.trans h.output, Nat.le_trans h.size k.size, fun i hi hne => (k.block i (Nat.lt_of_lt_of_le hi h.size) (fun e => by have := hr i e.symm; omega)).trans (h.block i hi hne)⟩
theorem own_from {w : World} {B : Nat} {A : Option Addr} {c : Nat} {xs : List Int} (h : OwnInts w B A c xs) : ∀ k, (Value.slice A xs.length c).ownBlock = some k → B ≤ k := fun k hk => (World.ownsRow.lt h k hk).1
set_option maxHeartbeats 800000 in
theorem known_any (w : World) (r N : Nat) (h : Rd w r N) (hN : N ≤ 100000000) : Calls Try.prog 29 #[.pointer (some ⟨r, 0, none⟩)] w (DrewInts w r (N + 30)) := by
  have hrl := h.lt
  have R0 := Lib.hid (h.alloc (.cells #[] 3))
  have O0 := Lib.hid (OwnInts.empty w w.heap.size (Nat.le_refl _))
  have G0 := Lib.hid (World.grownBy_alloc w (.cells #[] 3) (some r))
  clear h
  go_enter Try.func29, Try.ntmps29
  go_wp2_with fail
  go_loopw [3, 4] (fun o i wr => ∃ (k : Nat) (A : Option Addr) (c : Nat) (xs : List Int), k ≤ 4 ∧ i = .int .i64 k ∧ o = .slice A xs.length c ∧ xs.length ≤ k ∧ Hid (OwnInts wr w.heap.size A c xs) ∧ Hid (Rd wr r (N + 4 * k)) ∧ Hid (w.grownBy wr (some r))) (fun _ i _ => 6 - (intOf i).toNat)
  case atStart => exact ⟨0, _, 0, [], by omega, rfl, rfl, by simp, O0.out, R0.out, G0.out⟩
  case round =>
    clear O0 R0 G0
    obtain ⟨k, A, c, xs, hk, rfl, rfl, hl, hO, hR, hG⟩ := hrel
    go_wp2_with fail
    refine (pick_any _ r (N + 4 * k) 4 hR.out (by omega) (by omega) (by omega)).mono ?_
    rintro e w2 ⟨t, rfl, ht0, ht1, hR2, hG2⟩
    have O2 := Lib.hid (hO.out.kept hG2 (by rintro j ⟨⟩; exact hrl))
    have R2 := Lib.hid hR2
    have G2 := Lib.hid (only_trans hG.out hG2)
    clear hR2 hG2 hO hR hG
    by_cases hlt : (k : Int) < t
    · go_wp2_with fail
      refine (atom_any _ r (N + 4 * k + 1) R2.out (by omega)).mono ?_
      rintro e w3 ⟨n, rfl, hn0, hn1, hR3, hG3⟩
      have O3 := Lib.hid ((O2.out.kept hG3 (by rintro j ⟨⟩; exact hrl)).alloc (.cells #[.int .i64 n] 3))
      have R3 := Lib.hid (hR3.alloc (.cells #[.int .i64 n] 3))
      have G3 := Lib.hid (only_alloc (only_trans G2.out hG3) (.cells #[.int .i64 n] 3))
      have z3 : w.heap.size ≤ (w3.alloc (.cells #[.int .i64 n] 3)).heap.size := G3.out.size
      have hcell : (w3.alloc (.cells #[.int .i64 n] 3)).cell? ⟨w3.heap.size, 0, none⟩ = some (.int .i64 n) := cell_lit w3 [.int .i64 n] 3 0 _ rfl
      have hob := Lib.hid (own_from O3.out)
      clear hR3 hG3
      go_wp2_with (at_builtin; refine wpList_append_int rfl (.tmp 12) (.tmp 15) rfl w.heap.size A c xs rfl O3.out w3.heap.size n rfl hcell (by omega) z3 ?_; intro A' c' w4 hO4 hg4 hB4)
      have O4 := Lib.hid hO4
      have R4 := Lib.hid ((R3.out.grown hg4 (fun j hj => by have := hob.out j hj; omega)).mono (show N + 4 * k + 1 + 2 ≤ N + 4 * (k + 1) by omega))
      have G4 := Lib.hid (only_far G3.out hg4 hob.out)
      clear hO4 hg4 hB4
      go_wp2
      go_roundw
      case rel => exact ⟨k + 1, A', c', xs ++ [n], by omega, by go_num, by simp, by simp; omega, O4.out, R4.out, G4.out⟩
      case measure => simp [intOf]; omega
    · have D := Lib.hid (show DrewInts w r (N + 30) (.returned (.slice A xs.length c)) w2 from ⟨A, c, xs, rfl, by omega, O2.out, R2.out.mono (by omega), G2.out⟩)
      go_wp2
      go_ret
      exact D.out
end Go.Proofs.Ytamddfacmmjglaa
