/- Contracts of RangesAdd, the program's and the reference's. No condition but that the slice reads as the list. -/
import Derived.Test.YtclfkkapahdgaaaRAdd2
namespace Go.Proofs.Ytclfkkapahdgaaa
open Go.RowKit
set_option linter.unusedVariables false
def span (lo hi : Int) : Bool := decide (0 ≤ lo) && decide (lo ≤ hi) && decide (hi ≤ 999)
theorem span_iff (lo hi : Int) : span lo hi = true ↔ 0 ≤ lo ∧ lo ≤ hi ∧ hi ≤ 999 := by unfold span; simp [and_assoc]
/-- A list that is a set unless it has too many ranges. -/
def few (rs : List Rg) : List Rg × Bool := if rs.length ≤ 16 then (rs, true) else ([], false)
def addOf (rs : List Rg) (lo hi : Int) : List Rg × Bool := if rvalid rs && span lo hi then few (radd rs lo hi) else ([], false)
/-- The call gives a slice of its own that reads as p.1, and the Boolean p.2. -/
def PairPost (w : World) (p : List Rg × Bool) (e : Ending) (w' : World) : Prop := ∃ A c, e = .returned (.tuple #[.slice A p.1.length c, .bool p.2]) ∧ OwnRs w' w.heap.size A c p.1 ∧ Below w.heap.size w w'
theorem isRange_any (lo hi : Int) (w : World) (b : Bool) (hb : span lo hi = b) : Calls Try.prog 53 #[.int .i64 lo, .int .i64 hi] w fun e w' => e = .returned (.bool b) ∧ w = w' := by
  subst hb
  unfold span
  by_cases h1 : 0 ≤ lo <;> by_cases h2 : lo ≤ hi <;> by_cases h3 : hi ≤ 999
  all_goals
    go_enter Try.func53, Try.ntmps53
    go_wp2
    go_ret
    exact ⟨by simp [h1, h2, h3], rfl⟩
theorem span_any (lo hi : Int) (w : World) (b : Bool) (hb : span lo hi = b) : Calls Try.prog 56 #[.int .i64 lo, .int .i64 hi] w fun e w' => e = .returned (.bool b) ∧ w = w' := by
  subst hb
  unfold span
  by_cases h1 : 0 ≤ lo <;> by_cases h2 : lo ≤ hi <;> by_cases h3 : hi ≤ 999
  all_goals
    go_enter Try.func56, Try.ntmps56
    go_wp2
    go_ret
    exact ⟨by simp [h1, h2, h3], rfl⟩
theorem few_yes (A : Option Addr) (n c : Nat) (w : World) (h : n ≤ 16) : Calls Try.prog 54 #[.slice A n c] w fun e w' => e = .returned (.tuple #[.slice A n c, .bool true]) ∧ w = w' := by
  go_enter Try.func54, Try.ntmps54
  go_wp2
  go_ret2
  exact ⟨rfl, rfl⟩
theorem few_no (A : Option Addr) (n c : Nat) (w : World) (h : 16 < n) : Calls Try.prog 54 #[.slice A n c] w fun e w' => e = .returned (.tuple #[.slice none 0 0, .bool false]) ∧ w = w' := by
  go_enter Try.func54, Try.ntmps54
  go_wp2
  go_ret2
  exact ⟨rfl, rfl⟩
theorem valid_of {F : FuncId} {args : Array Value} {w : World} {rs : List Rg} {b : Bool} (h : Calls Try.prog F args w (BoolPost w (rvalid rs))) (hb : rvalid rs = b) : Calls Try.prog F args w (BoolPost w b) := by rw [← hb]; exact h
theorem few_le {rs : List Rg} (h : rs.length ≤ 16) : few rs = (rs, true) := by unfold few; rw [if_pos h]
theorem few_gt {rs : List Rg} (h : 16 < rs.length) : few rs = ([], false) := by unfold few; rw [if_neg (by omega)]
theorem pair_none {w w' : World} {p : List Rg × Bool} (hp : p = ([], false)) (h : Below w.heap.size w w') : PairPost w p (.returned (.tuple #[.slice none 0 0, .bool false])) w' := by
  subst hp; exact ⟨none, 0, rfl, OwnRs.nil _ _, h⟩
theorem pair_empty {w w' : World} {p : List Rg × Bool} (hp : p = ([], false)) (h : Below w.heap.size w w') : PairPost w p (.returned (.tuple #[.slice (some ⟨w'.heap.size, 0, none⟩) 0 0, .bool false])) (w'.alloc (.cells #[] 38)) := by
  subst hp; exact ⟨_, 0, rfl, OwnRs.empty _ _ h.size, h.alloc h.size _⟩
theorem pair_list {w w' : World} {p : List Rg × Bool} {A : Option Addr} {c : Nat} {rs : List Rg} (hp : p = (rs, true)) (ho : OwnRs w' w.heap.size A c rs) (h : Below w.heap.size w w') : PairPost w p (.returned (.tuple #[.slice A rs.length c, .bool true])) w' := by
  subst hp; exact ⟨A, c, rfl, ho, h⟩
theorem row_any {w : World} {rs : List Rg} {e : Ending} {w' : World} (h : RowPost w rs e w') : ∃ A c qs, Hid (qs = rs) ∧ e = .returned (.slice A qs.length c) ∧ Hid (OwnRs w' w.heap.size A c qs) ∧ Hid (Below w.heap.size w w') := by
  obtain ⟨A, c, h1, h2, h3⟩ := h
  exact ⟨A, c, rs, rfl, h1, h2, h3⟩
set_option maxHeartbeats 800000 in
theorem iaddAll_any (B : Nat) (A : Option Addr) (rs : List Rg) (c : Nat) (lo hi : Int) (w : World) (h : RsIn w B A rs) (hBw : B ≤ w.heap.size) (hm : rs.length ≤ 2000000) (hc : rs.length ≤ c) :
    Calls Try.prog 35 #[.slice A rs.length c, .int .i64 lo, .int .i64 hi] w (PairPost w (addOf rs lo hi)) := by
  have H := Lib.hid h
  have HC := Lib.hid hc
  clear h hc
  obtain ⟨ok, hok⟩ : ∃ b, rvalid rs = b := ⟨_, rfl⟩
  obtain ⟨sp, hsp⟩ : ∃ b, span lo hi = b := ⟨_, rfl⟩
  have OK := Lib.hid hok
  have SP := Lib.hid hsp
  clear hok hsp
  have D := Lib.hid (show addOf rs lo hi = if ok && sp then few (radd rs lo hi) else ([], false) by unfold addOf; rw [OK.out, SP.out])
  go_enter Try.func35, Try.ntmps35
  go_wp2_with fail
  with_reducible refine (valid_of (ivalid_any B A rs c w H.out hBw (Nat.le_trans hm (by decide))) OK.out).mono ?_
  rintro e w1 ⟨rfl, hB⟩
  have B1 := Lib.hid hB
  clear hB
  cases ok with
  | false =>
    go_wp2_with fail
    go_ret2
    exact pair_none D.out B1.out
  | true =>
    go_wp2_with fail
    with_reducible refine (isRange_any lo hi w1 sp SP.out).mono ?_
    rintro e w2 ⟨rfl, rfl⟩
    cases sp with
    | false =>
      go_wp2_with fail
      go_ret2
      exact pair_none D.out B1.out
    | true =>
      go_wp2_with fail
      have hs := (span_iff _ _).1 SP.out
      have hadd := iadded_any B A rs c lo hi w1 (H.out.below (B1.out.mono hBw)) (Nat.le_trans hBw B1.out.size) hm HC.out (rvalid_rv OK.out) hs.1 hs.2.1 hs.2.2
      clear hs
      with_reducible refine hadd.mono ?_
      clear hadd
      intro e w2 hrow
      obtain ⟨A2, c2, qs, hq, rfl, hO, hB⟩ := row_any hrow
      have B2 := Lib.hid (drew2 B1.out hB.out)
      have O2 := Lib.hid (hO.out.mono B1.out.size)
      clear hO hB hrow
      by_cases hl : qs.length ≤ 16
      · have D2 := Lib.hid (show addOf rs lo hi = (qs, true) by rw [D.out, ← hq.out]; exact few_le hl)
        go_wp2_with fail
        with_reducible refine (few_yes A2 qs.length c2 w2 hl).mono ?_
        rintro e w3 ⟨rfl, rfl⟩
        go_wp2
        go_ret2
        exact pair_list D2.out O2.out B2.out
      · have D2 := Lib.hid (show addOf rs lo hi = ([], false) by rw [D.out, ← hq.out]; exact few_gt (by omega))
        go_wp2_with fail
        with_reducible refine (few_no A2 qs.length c2 w2 (by omega)).mono ?_
        rintro e w3 ⟨rfl, rfl⟩
        go_wp2
        go_ret2
        exact pair_none D2.out B2.out
set_option maxHeartbeats 800000 in
theorem saddAll_any (B : Nat) (A : Option Addr) (rs : List Rg) (c : Nat) (lo hi : Int) (w : World) (h : RsIn w B A rs) (hBw : B ≤ w.heap.size) (hm : rs.length ≤ 2000000) :
    Calls Try.prog 41 #[.slice A rs.length c, .int .i64 lo, .int .i64 hi] w (PairPost w (addOf rs lo hi)) := by
  have H := Lib.hid h
  clear h
  obtain ⟨ok, hok⟩ : ∃ b, rvalid rs = b := ⟨_, rfl⟩
  obtain ⟨sp, hsp⟩ : ∃ b, span lo hi = b := ⟨_, rfl⟩
  have OK := Lib.hid hok
  have SP := Lib.hid hsp
  clear hok hsp
  have D := Lib.hid (show addOf rs lo hi = if ok && sp then few (radd rs lo hi) else ([], false) by unfold addOf; rw [OK.out, SP.out])
  go_enter Try.func41, Try.ntmps41
  go_wp2_with fail
  with_reducible refine (valid_of (svalid_any B A rs c w H.out hBw (Nat.le_trans hm (by decide))) OK.out).mono ?_
  rintro e w1 ⟨rfl, hB⟩
  have B1 := Lib.hid hB
  clear hB
  cases ok with
  | false =>
    go_wp2_with fail
    go_ret2
    exact pair_empty D.out B1.out
  | true =>
    go_wp2_with fail
    with_reducible refine (span_any lo hi w1 sp SP.out).mono ?_
    rintro e w2 ⟨rfl, rfl⟩
    cases sp with
    | false =>
      go_wp2_with fail
      go_ret2
      exact pair_empty D.out B1.out
    | true =>
      go_wp2_with fail
      have hs := (span_iff _ _).1 SP.out
      have hadd := sadd_any B A rs c lo hi w1 (H.out.below (B1.out.mono hBw)) (Nat.le_trans hBw B1.out.size) hm (rvalid_rv OK.out) hs.1 hs.2.1 hs.2.2
      clear hs
      with_reducible refine hadd.mono ?_
      clear hadd
      intro e w2 hrow
      obtain ⟨A2, c2, qs, hq, rfl, hO, hB⟩ := row_any hrow
      have B2 := Lib.hid (drew2 B1.out hB.out)
      have O2 := Lib.hid (hO.out.mono B1.out.size)
      clear hO hB hrow
      by_cases hl : qs.length ≤ 16
      · have D2 := Lib.hid (show addOf rs lo hi = (qs, true) by rw [D.out, ← hq.out]; exact few_le hl)
        go_wp2_with fail
        go_ret2
        exact pair_list D2.out O2.out B2.out
      · have D2 := Lib.hid (show addOf rs lo hi = ([], false) by rw [D.out, ← hq.out]; exact few_gt (by omega))
        go_wp2_with fail
        go_ret2
        exact pair_empty D2.out B2.out
end Go.Proofs.Ytclfkkapahdgaaa
