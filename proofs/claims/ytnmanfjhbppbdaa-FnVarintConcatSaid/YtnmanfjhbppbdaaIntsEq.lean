/- Contracts of the laws' helpers on slices of integers: equal, marked, held. No condition beyond those in each theorem. -/
import Derived.Test.YtnmanfjhbppbdaaInts
import Derived.Deep.QuietTactic
import Derived.BigQuiet
import Derived.Deep.Draws
namespace Go.Proofs.Ytnmanfjhbppbdaa
open Go.RowKit
theorem take_succ_eq {xs ys : List Int} {k : Nat} (hx : k < xs.length) (hy : k < ys.length) : xs.take (k + 1) = ys.take (k + 1) ↔ xs.take k = ys.take k ∧ xs.getD k 0 = ys.getD k 0 := by
  rw [List.take_succ_eq_append_getElem hx, List.take_succ_eq_append_getElem hy, List.getD_eq_getElem?_getD, List.getD_eq_getElem?_getD, List.getElem?_eq_getElem hx, List.getElem?_eq_getElem hy]
  constructor
  · intro h
    have := List.append_inj' h rfl
    exact ⟨this.1, by simpa using this.2⟩
  · rintro ⟨h1, h2⟩
    rw [h1]; simp at h2; rw [h2]
/-- The slice at A, as long as xs, reads as xs, in a block below B. -/
def IntsIn (w : World) (B : Nat) (A : Option Addr) (xs : List Int) : Prop :=
  0 < xs.length → ∃ b off, A = some ⟨b, off, none⟩ ∧ b < B ∧ ∀ i, i < xs.length → w.cell? ⟨b, off + i, none⟩ = some (.int .i64 (xs.getD i 0))
theorem IntsIn.below {w w' : World} {B : Nat} {A : Option Addr} {xs : List Int} (h : IntsIn w B A xs) (hb : Below B w w') : IntsIn w' B A xs := fun h0 => by
  obtain ⟨b, off, hA, hlt, hc⟩ := h h0
  exact ⟨b, off, hA, hlt, fun i hi => (hb.cell (p := ⟨b, off + i, none⟩) hlt).trans (hc i hi)⟩
theorem IntsIn.mono {w : World} {B B' : Nat} {A : Option Addr} {xs : List Int} (h : IntsIn w B A xs) (hB : B ≤ B') : IntsIn w B' A xs := fun h0 => by
  obtain ⟨b, off, hA, hlt, hc⟩ := h h0
  exact ⟨b, off, hA, by omega, hc⟩
theorem OwnInts.in_ {w : World} {B : Nat} {A : Option Addr} {c : Nat} {xs : List Int} (h : OwnInts w B A c xs) : IntsIn w w.heap.size A xs := fun h0 => by
  obtain ⟨g, rfl, _, hg, hc⟩ := h.cell h0
  exact ⟨g, 0, rfl, hg, fun i hi => by rw [Nat.zero_add]; exact hc i hi⟩
def EqPost (w : World) (b : Bool) (e : Ending) (w' : World) : Prop := e = .returned (.bool b) ∧ Below w.heap.size w w'
set_option maxHeartbeats 400000 in
theorem eqIntS_any (B B' : Nat) (A A' : Option Addr) (xs ys : List Int) (c c' : Nat) (w : World) (h : IntsIn w B A xs) (h' : IntsIn w B' A' ys) (hBw : B ≤ w.heap.size) (hBw' : B' ≤ w.heap.size) (hm : xs.length ≤ 1000000000000) :
    Calls Try.prog 30 #[.slice A xs.length c, .slice A' ys.length c'] w (EqPost w (decide (xs = ys))) := by
  have H := Lib.hid h
  have H' := Lib.hid h'
  clear h h'
  by_cases hl : xs.length = ys.length
  · have E : xs.length ≤ ys.length ∧ ys.length ≤ xs.length := by omega
    obtain ⟨E1, E2⟩ := E
    have HL := Lib.hid hl
    have e0 : ((xs.length : Int) == (ys.length : Int)) = true := beq_iff_eq.2 (by omega)
    have e1 : ((xs.length : Int) != (ys.length : Int)) = false := by rw [bne_eq_false_iff_eq]; omega
    clear hl
    go_enter Try.func30, Try.ntmps30
    go_wp2_with fail
    go_loopw [5] (fun i wr => ∃ k : Nat, k ≤ xs.length ∧ i = .int .i64 k ∧ Hid (xs.take k = ys.take k) ∧ Hid (Below w.heap.size w wr)) (fun i _ => xs.length - (intOf i).toNat)
    case atStart => exact ⟨0, Nat.zero_le _, rfl, rfl, Below.refl _ _⟩
    case round =>
      obtain ⟨k, hk, rfl, ht, hB⟩ := hrel
      by_cases hlt : k < xs.length
      · obtain ⟨b, off, rfl, _, hc⟩ := (H.out.below (hB.out.mono hBw)) (by omega)
        obtain ⟨b', off', rfl, _, hc'⟩ := (H'.out.below (hB.out.mono hBw')) (by omega)
        have g1 := hc k hlt
        have g2 := hc' k (by omega)
        have T := Lib.hid (take_succ_eq hlt (show k < ys.length by omega))
        clear hc hc'
        generalize xs.getD k 0 = x at g1 T
        generalize ys.getD k 0 = y at g2 T
        have j1 : (k : Int) < (xs.length : Int) := by omega
        have j2 : (k : Int) < (ys.length : Int) := by omega
        go_wp2_with fail
        go_quiet (fail)
        go_wp2
        · have hx : (x != y) = true := by assumption
          go_ret
          refine ⟨ret_bool ?_, below_drewN hB.out _⟩
          rw [eq_comm, decide_eq_false_iff_not]
          intro he
          have := (T.out.1 (by rw [he])).2
          rw [bne_iff_ne] at hx
          exact hx this
        · have hx : (x != y) = false := by assumption
          go_roundw
          case rel => exact ⟨k + 1, by omega, by go_num, T.out.2 ⟨ht.out, by simpa using hx⟩, below_drewN hB.out _⟩
          case measure => simp [intOf]; omega
      · have hk' : k = xs.length := by omega
        have K := Lib.hid hk'
        clear hk'
        go_wp2
        go_ret
        refine ⟨ret_bool ?_, hB.out⟩
        rw [eq_comm, decide_eq_true_eq]
        have := ht.out
        rw [K.out, List.take_of_length_le (Nat.le_refl _), List.take_of_length_le (by rw [HL.out]; exact Nat.le_refl _)] at this
        exact this
  · have e1 : ((xs.length : Int) != (ys.length : Int)) = true := by rw [bne_iff_ne]; omega
    have D := Lib.hid (show false = decide (xs = ys) by rw [eq_comm, decide_eq_false_iff_not]; intro he; exact hl (by rw [he]))
    clear hl
    go_enter Try.func30, Try.ntmps30
    go_wp2_with fail
    go_ret
    exact ⟨ret_bool D.out, Below.refl _ _⟩
set_option maxHeartbeats 400000 in
theorem sameInts_any (B B' : Nat) (A A' : Option Addr) (xs ys : List Int) (c c' : Nat) (w : World) (h : IntsIn w B A xs) (h' : IntsIn w B' A' ys) (hBw : B ≤ w.heap.size) (hBw' : B' ≤ w.heap.size) (hm : xs.length ≤ 1000000000000) :
    Calls Try.prog 41 #[.slice A xs.length c, .slice A' ys.length c'] w (EqPost w (decide (xs = ys))) := by
  have H := Lib.hid h
  have H' := Lib.hid h'
  clear h h'
  by_cases hl : xs.length = ys.length
  · have E : xs.length ≤ ys.length ∧ ys.length ≤ xs.length := by omega
    obtain ⟨E1, E2⟩ := E
    have HL := Lib.hid hl
    have e0 : ((xs.length : Int) == (ys.length : Int)) = true := beq_iff_eq.2 (by omega)
    have e1 : ((xs.length : Int) != (ys.length : Int)) = false := by rw [bne_eq_false_iff_eq]; omega
    clear hl
    go_enter Try.func41, Try.ntmps41
    go_wp2_with fail
    go_loopw [5] (fun i wr => ∃ k : Nat, k ≤ xs.length ∧ i = .int .i64 k ∧ Hid (xs.take k = ys.take k) ∧ Hid (Below w.heap.size w wr)) (fun i _ => xs.length - (intOf i).toNat)
    case atStart => exact ⟨0, Nat.zero_le _, rfl, rfl, Below.refl _ _⟩
    case round =>
      obtain ⟨k, hk, rfl, ht, hB⟩ := hrel
      by_cases hlt : k < xs.length
      · obtain ⟨b, off, rfl, _, hc⟩ := (H.out.below (hB.out.mono hBw)) (by omega)
        obtain ⟨b', off', rfl, _, hc'⟩ := (H'.out.below (hB.out.mono hBw')) (by omega)
        have g1 := hc k hlt
        have g2 := hc' k (by omega)
        have T := Lib.hid (take_succ_eq hlt (show k < ys.length by omega))
        clear hc hc'
        generalize xs.getD k 0 = x at g1 T
        generalize ys.getD k 0 = y at g2 T
        have j1 : (k : Int) < (xs.length : Int) := by omega
        have j2 : (k : Int) < (ys.length : Int) := by omega
        go_wp2_with fail
        go_quiet (fail)
        go_wp2
        · have hx : (x != y) = true := by assumption
          go_ret
          refine ⟨ret_bool ?_, below_drewN hB.out _⟩
          rw [eq_comm, decide_eq_false_iff_not]
          intro he
          have := (T.out.1 (by rw [he])).2
          rw [bne_iff_ne] at hx
          exact hx this
        · have hx : (x != y) = false := by assumption
          go_roundw
          case rel => exact ⟨k + 1, by omega, by go_num, T.out.2 ⟨ht.out, by simpa using hx⟩, below_drewN hB.out _⟩
          case measure => simp [intOf]; omega
      · have hk' : k = xs.length := by omega
        have K := Lib.hid hk'
        clear hk'
        go_wp2
        go_ret
        refine ⟨ret_bool ?_, hB.out⟩
        rw [eq_comm, decide_eq_true_eq]
        have := ht.out
        rw [K.out, List.take_of_length_le (Nat.le_refl _), List.take_of_length_le (by rw [HL.out]; exact Nat.le_refl _)] at this
        exact this
  · have e1 : ((xs.length : Int) != (ys.length : Int)) = true := by rw [bne_iff_ne]; omega
    have D := Lib.hid (show false = decide (xs = ys) by rw [eq_comm, decide_eq_false_iff_not]; intro he; exact hl (by rw [he]))
    clear hl
    go_enter Try.func41, Try.ntmps41
    go_wp2_with fail
    go_ret
    exact ⟨ret_bool D.out, Below.refl _ _⟩
/-- The first k cells marked from k0 on, the rest as it was. -/
def marked (k0 : Int) (k : Nat) (xs : List Int) : List Int := ((List.range k).map fun i => k0 + (i : Nat)) ++ xs.drop k
theorem marked_length (k0 : Int) (k : Nat) (xs : List Int) (h : k ≤ xs.length) : (marked k0 k xs).length = xs.length := by
  unfold marked; simp; omega
theorem marked_succ (k0 : Int) (k : Nat) (xs : List Int) (h : k < xs.length) : marked k0 (k + 1) xs = (marked k0 k xs).set k (k0 + k) := by
  unfold marked
  rw [List.range_succ, List.map_append, List.append_assoc, List.set_append_right _ _ (by simp)]
  simp
  rw [List.drop_eq_getElem_cons h]
  rfl
/-- All marked. -/
def marks (k0 : Int) (n : Nat) : List Int := (List.range n).map fun i => k0 + (i : Nat)
theorem marked_all (k0 : Int) (xs : List Int) : marked k0 xs.length xs = marks k0 xs.length := by
  unfold marked marks; simp
theorem marks_length (k0 : Int) (n : Nat) : (marks k0 n).length = n := by unfold marks; simp
theorem marks_at (k0 : Int) (n i : Nat) (h : i < n) : (marks k0 n).getD i 0 = k0 + i := by
  unfold marks
  rw [List.getD_eq_getElem?_getD, List.getElem?_map, List.getElem?_range h]; rfl
theorem OwnInts.stored {w : World} {B g c : Nat} {xs : List Int} (h : OwnInts w B (some ⟨g, 0, none⟩) c xs) (j : Nat) (y : Int) : OwnInts (w.setCell ⟨g, j, none⟩ (.int .i64 y)) B (some ⟨g, 0, none⟩) c (xs.set j y) := by
  have := World.ownsRow.stored h j (.int .i64 y)
  unfold OwnInts
  rw [List.length_set, List.map_set]
  exact this.1
def MarkPost (w : World) (B : Nat) (A : Option Addr) (c : Nat) (n : Nat) (k0 : Int) (e : Ending) (w' : World) : Prop :=
  e = .returned (.int .i64 (k0 + n)) ∧ OwnInts w' B A c (marks k0 n) ∧ Below B w w'
set_option maxHeartbeats 400000 in
theorem mark_any (B : Nat) (A : Option Addr) (xs : List Int) (c : Nat) (k0 : Int) (w : World) (h : OwnInts w B A c xs) (hk0 : 0 ≤ k0) (hk1 : k0 ≤ 1000000) (hm : xs.length ≤ 1000000000000) :
    Calls Try.prog 31 #[.slice A xs.length c, .int .i64 k0] w (MarkPost w B A c xs.length k0) := by
  have H := Lib.hid h
  clear h
  go_enter Try.func31, Try.ntmps31
  go_wp2_with fail
  go_loopw [1, 5] (fun q i wr => ∃ k : Nat, k ≤ xs.length ∧ i = .int .i64 k ∧ q = .int .i64 (k0 + k) ∧ Hid (OwnInts wr B A c (marked k0 k xs)) ∧ Hid (Below B w wr)) (fun _ i _ => xs.length - (intOf i).toNat)
  case atStart => exact ⟨0, Nat.zero_le _, rfl, by simp, by show OwnInts w B A c (marked k0 0 xs); rw [show marked k0 0 xs = xs from by simp [marked]]; exact H.out, Below.refl _ _⟩
  case round =>
    obtain ⟨k, hk, rfl, rfl, hO, hB⟩ := hrel
    by_cases hlt : k < xs.length
    · have hl := Lib.hid (marked_length k0 k xs hk)
      obtain ⟨g, rfl, hg, hgl, hc⟩ := hO.out.cell (by rw [hl.out]; omega)
      have g1 := hc k (by rw [hl.out]; omega)
      clear hc
      have f1 : wr.frozen? ⟨g, k, none⟩ = false := by
        have := hO.out
        unfold OwnInts at this
        exact World.ownsRow.frozenAt this k
      have hO2 := Lib.hid (show OwnInts (wr.setCell ⟨g, k, none⟩ (.int .i64 (k0 + k))) B (some ⟨g, 0, none⟩) c (marked k0 (k + 1) xs) by rw [marked_succ k0 k xs hlt]; exact hO.out.stored k _)
      have hB2 := Lib.hid (hB.out.setCell (p := ⟨g, k, none⟩) hg (.int .i64 (k0 + k)))
      generalize (marked k0 k xs).getD k 0 = x at g1
      go_wp2_with fail
      go_roundw
      case rel => exact ⟨k + 1, by omega, by go_num, by go_num, hO2.out, hB2.out⟩
      case measure => simp [intOf]; omega
    · have hk' : k = xs.length := by omega
      have D := Lib.hid (show MarkPost w B A c xs.length k0 (.returned (.int .i64 (k0 + k))) wr by
        refine ⟨by rw [hk'], ?_, hB.out⟩
        rw [← marked_all, ← hk']; exact hO.out)
      clear hk'
      go_wp2_with fail
      go_ret
      exact D.out
theorem own_marks {w : World} {B : Nat} {A : Option Addr} {c n : Nat} {k0 : Int} (h : OwnInts w B A c (marks k0 n)) : IntsIn w w.heap.size A (marks k0 n) := h.in_
set_option maxHeartbeats 400000 in
theorem held_any (B n : Nat) (A : Option Addr) (c : Nat) (k0 : Int) (w : World) (h : IntsIn w B A (marks k0 n)) (hk0 : 0 ≤ k0) (hk1 : k0 ≤ 1000000) (hm : n ≤ 1000000000000) :
    Calls Try.prog 32 #[.slice A n c, .int .i64 k0] w fun e w' => e = .returned (.int .i64 (k0 + n)) ∧ w = w' := by
  have H := Lib.hid h
  clear h
  go_enter Try.func32, Try.ntmps32
  go_wp2_with fail
  go_loop [1, 5] (fun q i => ∃ k : Nat, k ≤ n ∧ i = .int .i64 k ∧ q = .int .i64 (k0 + k)) (fun _ i => n - (intOf i).toNat)
  case atStart => exact ⟨0, Nat.zero_le _, rfl, by simp⟩
  case round =>
    obtain ⟨k, hk, rfl, rfl⟩ := hrel
    by_cases hlt : k < n
    · obtain ⟨b, off, rfl, _, hc⟩ := H.out (by rw [marks_length]; omega)
      have g1 := hc k (by rw [marks_length]; omega)
      rw [marks_at k0 n k hlt] at g1
      clear hc
      go_wp2_with fail
      go_round
      case rel => exact ⟨k + 1, by omega, by go_num, by go_num⟩
      case measure => simp [intOf]; omega
    · have hk' : k = n := by omega
      have D := Lib.hid hk'
      clear hk'
      go_wp2_with fail
      go_ret
      exact ⟨by rw [D.out]; rfl, rfl⟩
end Go.Proofs.Ytnmanfjhbppbdaa
