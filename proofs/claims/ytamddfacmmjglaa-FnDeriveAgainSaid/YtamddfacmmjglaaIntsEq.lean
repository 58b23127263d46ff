/- Contracts of the laws' helpers on slices of integers: equal, marked, held. No condition beyond those in each theorem. -/
import Derived.Test.YtamddfacmmjglaaInts
import Derived.Deep.QuietTactic
import Derived.BigQuiet
import Derived.Deep.Draws
namespace Go.Proofs.Ytamddfacmmjglaa
open Go.RowKit
theorem take_succ_eq {xs ys : List Int} {k : Nat} (hx : k < xs.length) (hy : k < ys.length) : xs.take (k + 1) = ys.take (k + 1) ↔ xs.take k = ys.take k ∧ xs.getD k 0 = ys.getD k 0 := by
  rw [List.take_succ_eq_append_getElem hx, List.take_succ_eq_append_getElem hy, List.getD_eq_getElem?_getD, List.getD_eq_getElem?_getD, List.getElem?_eq_getElem hx, List.getElem?_eq_getElem hy]
  constructor
  · intro h
    have := List.append_inj' h rfl
    exact ⟨this.1, by simpa using this.2⟩
  · rintro ⟨h1, h2⟩
    rw [h1]; simp at h2; rw [h2]
/-- The slice at A, as long as xs, reads as xs, in a block below B. -/
def IntsIn (w : World) (B : Nat) (A : Option Addr) (xs : List Int) : Prop :=
  0 < xs.length → ∃ b off, A = some ⟨b, off, none⟩ ∧ b < B ∧ ∀ i, i < xs.length → w.cell? ⟨b, off + i, none⟩ = some (.int .i64 (xs.getD i 0))
theorem IntsIn.below {w w' : World} {B : Nat} {A : Option Addr} {xs : List Int} (h : IntsIn w B A xs) (hb : Below B w w') : IntsIn w' B A xs := fun h0 => by
  obtain ⟨b, off, hA, hlt, hc⟩ := h h0
  exact ⟨b, off, hA, hlt, fun i hi => (hb.cell (p := ⟨b, off + i, none⟩) hlt).trans (hc i hi)⟩
theorem IntsIn.mono {w : World} {B B' : Nat} {A : Option Addr} {xs : List Int} (h : IntsIn w B A xs) (hB : B ≤ B') : IntsIn w B' A xs := fun h0 => by
  obtain ⟨b, off, hA, hlt, hc⟩ := h h0
  exact ⟨b, off, hA, by omega, hc⟩
theorem OwnInts.in_ {w : World} {B : Nat} {A : Option Addr} {c : Nat} {xs : List Int} (h : OwnInts w B A c xs) : IntsIn w w.heap.size A xs := fun h0 => by
  obtain ⟨g, rfl, _, hg, hc⟩ := h.cell h0
  exact ⟨g, 0, rfl, hg, fun i hi => by rw [Nat.zero_add]; exact hc i hi⟩
def EqPost (w : World) (b : Bool) (e : Ending) (w' : World) : Prop := e = .returned (.bool b) ∧ Below w.heap.size w w'
set_option maxHeartbeats 400000 in
theorem eqIntS_any (B B' : Nat) (A A' : Option Addr) (xs ys : List Int) (c c' : Nat) (w : World) (h : IntsIn w B A xs) (h' : IntsIn w B' A' ys) (hBw : B ≤ w.heap.size) (hBw' : B' ≤ w.heap.size) (hm : xs.length ≤ 1000000000000) :
    Calls Try.prog 37 #[.slice A xs.length c, .slice A' ys.length c'] w (EqPost w (decide (xs = ys))) := by
  have H := Lib.hid h
  have H' := Lib.hid h'
  clear h h'
  by_cases hl : xs.length = ys.length
  · have E : xs.length ≤ ys.length ∧ ys.length ≤ xs.length := by omega
    obtain ⟨E1, E2⟩ := E
    have HL := Lib.hid hl
    have e0 : ((xs.length : Int) == (ys.length : Int)) = true := beq_iff_eq.2 (by omega)
    have e1 : ((xs.length : Int) != (ys.length : Int)) = false := by rw [bne_eq_false_iff_eq]; omega
    clear hl
    go_enter Try.func37, Try.ntmps37
    go_wp2_with fail
    go_loopw [5] (fun i wr => ∃ k : Nat, k ≤ xs.length ∧ i = .int .i64 k ∧ Hid (xs.take k = ys.take k) ∧ Hid (Below w.heap.size w wr)) (fun i _ => xs.length - (intOf i).toNat)
    case atStart => exact ⟨0, Nat.zero_le _, rfl, rfl, Below.refl _ _⟩
    case round =>
      obtain ⟨k, hk, rfl, ht, hB⟩ := hrel
      by_cases hlt : k < xs.length
      · obtain ⟨b, off, rfl, _, hc⟩ := (H.out.below (hB.out.mono hBw)) (by omega)
        obtain ⟨b', off', rfl, _, hc'⟩ := (H'.out.below (hB.out.mono hBw')) (by omega)
        have g1 := hc k hlt
        have g2 := hc' k (by omega)
        have T := Lib.hid (take_succ_eq hlt (show k < ys.length by omega))
        clear hc hc'
        generalize xs.getD k 0 = x at g1 T
        generalize ys.getD k 0 = y at g2 T
        have j1 : (k : Int) < (xs.length : Int) := by omega
        have j2 : (k : Int) < (ys.length : Int) := by omega
        go_wp2_with fail
        go_quiet (fail)
        go_wp2
        · have hx : (x != y) = true := by assumption
          go_ret
          refine ⟨ret_bool ?_, below_drewN hB.out _⟩
          rw [eq_comm, decide_eq_false_iff_not]
          intro he
          have := (T.out.1 (by rw [he])).2
          rw [bne_iff_ne] at hx
          exact hx this
        · have hx : (x != y) = false := by assumption
          go_roundw
          case rel => exact ⟨k + 1, by omega, by go_num, T.out.2 ⟨ht.out, by simpa using hx⟩, below_drewN hB.out _⟩
          case measure => simp [intOf]; omega
      · have hk' : k = xs.length := by omega
        have K := Lib.hid hk'
        clear hk'
        go_wp2
        go_ret
        refine ⟨ret_bool ?_, hB.out⟩
        rw [eq_comm, decide_eq_true_eq]
        have := ht.out
        rw [K.out, List.take_of_length_le (Nat.le_refl _), List.take_of_length_le (by rw [HL.out]; exact Nat.le_refl _)] at this
        exact this
  · have e1 : ((xs.length : Int) != (ys.length : Int)) = true := by rw [bne_iff_ne]; omega
    have D := Lib.hid (show false = decide (xs = ys) by rw [eq_comm, decide_eq_false_iff_not]; intro he; exact hl (by rw [he]))
    clear hl
    go_enter Try.func37, Try.ntmps37
    go_wp2_with fail
    go_ret
    exact ⟨ret_bool D.out, Below.refl _ _⟩
set_option maxHeartbeats 400000 in
theorem sameInts_any (B B' : Nat) (A A' : Option Addr) (xs ys : List Int) (c c' : Nat) (w : World) (h : IntsIn w B A xs) (h' : IntsIn w B' A' ys) (hBw : B ≤ w.heap.size) (hBw' : B' ≤ w.heap.size) (hm : xs.length ≤ 1000000000000) :
    Calls Try.prog 17 #[.slice A xs.length c, .slice A' ys.length c'] w (EqPost w (decide (xs = ys))) := by
  have H := Lib.hid h
  have H' := Lib.hid h'
  clear h h'
  by_cases hl : xs.length = ys.length
  · have E : xs.length ≤ ys.length ∧ ys.length ≤ xs.length := by omega
    obtain ⟨E1, E2⟩ := E
    have HL := Lib.hid hl
    have e0 : ((xs.length : Int) == (ys.length : Int)) = true := beq_iff_eq.2 (by omega)
    have e1 : ((xs.length : Int) != (ys.length : Int)) = false := by rw [bne_eq_false_iff_eq]; omega
    clear hl
    go_enter Try.func17, Try.ntmps17
    go_wp2_with fail
    go_loopw [5] (fun i wr => ∃ k : Nat, k ≤ xs.length ∧ i = .int .i64 k ∧ Hid (xs.take k = ys.take k) ∧ Hid (Below w.heap.size w wr)) (fun i _ => xs.length - (intOf i).toNat)
    case atStart => exact ⟨0, Nat.zero_le _, rfl, rfl, Below.refl _ _⟩
    case round =>
      obtain ⟨k, hk, rfl, ht, hB⟩ := hrel
      by_cases hlt : k < xs.length
      · obtain ⟨b, off, rfl, _, hc⟩ := (H.out.below (hB.out.mono hBw)) (by omega)
        obtain ⟨b', off', rfl, _, hc'⟩ := (H'.out.below (hB.out.mono hBw')) (by omega)
        have g1 := hc k hlt
        have g2 := hc' k (by omega)
        have T := Lib.hid (take_succ_eq hlt (show k < ys.length by omega))
        clear hc hc'
        generalize xs.getD k 0 = x at g1 T
        generalize ys.getD k 0 = y at g2 T
        have j1 : (k : Int) < (xs.length : Int) := by omega
        have j2 : (k : Int) < (ys.length : Int) := by omega
        go_wp2_with fail
        go_quiet (fail)
        go_wp2
        · have hx : (x != y) = true := by assumption
          go_ret
          refine ⟨ret_bool ?_, below_drewN hB.out _⟩
          rw [eq_comm, decide_eq_false_iff_not]
          intro he
          have := (T.out.1 (by rw [he])).2
          rw [bne_iff_ne] at hx
          exact hx this
        · have hx : (x != y) = false := by assumption
          go_roundw
          case rel => exact ⟨k + 1, by omega, by go_num, T.out.2 ⟨ht.out, by simpa using hx⟩, below_drewN hB.out _⟩
          case measure => simp [intOf]; omega
      · have hk' : k = xs.length := by omega
        have K := Lib.hid hk'
        clear hk'
        go_wp2
        go_ret
        refine ⟨ret_bool ?_, hB.out⟩
        rw [eq_comm, decide_eq_true_eq]
        have := ht.out
        rw [K.out, List.take_of_length_le (Nat.le_refl _), List.take_of_length_le (by rw [HL.out]; exact Nat.le_refl _)] at this
        exact this
  · have e1 : ((xs.length : Int) != (ys.length : Int)) = true := by rw [bne_iff_ne]; omega
    have D := Lib.hid (show false = decide (xs = ys) by rw [eq_comm, decide_eq_false_iff_not]; intro he; exact hl (by rw [he]))
    clear hl
    go_enter Try.func17, Try.ntmps17
    go_wp2_with fail
    go_ret
    exact ⟨ret_bool D.out, Below.refl _ _⟩
theorem OwnInts.stored {w : World} {B g c : Nat} {xs : List Int} (h : OwnInts w B (some ⟨g, 0, none⟩) c xs) (j : Nat) (y : Int) : OwnInts (w.setCell ⟨g, j, none⟩ (.int .i64 y)) B (some ⟨g, 0, none⟩) c (xs.set j y) := by
  have := World.ownsRow.stored h j (.int .i64 y)
  unfold OwnInts
  rw [List.length_set, List.map_set]
  exact this.1
end Go.Proofs.Ytamddfacmmjglaa
