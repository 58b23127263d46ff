/- Contracts of RangesRemove, the program's and the reference's. No condition but that the slice reads as the list. -/
import Derived.Test.YtclfkkapahdgaaaRRem
namespace Go.Proofs.Ytclfkkapahdgaaa
open Go.RowKit
set_option linter.unusedVariables false
set_option maxHeartbeats 800000 in
theorem iremAll_any (B : Nat) (A : Option Addr) (rs : List Rg) (c : Nat) (lo hi : Int) (w : World) (h : RsIn w B A rs) (hBw : B ≤ w.heap.size) (hm : rs.length ≤ 2000000) :
    Calls Try.prog 38 #[.slice A rs.length c, .int .i64 lo, .int .i64 hi] w (PairPost w (remOf rs lo hi)) := by
  have H := Lib.hid h
  clear h
  obtain ⟨ok, hok⟩ : ∃ b, rvalid rs = b := ⟨_, rfl⟩
  obtain ⟨sp, hsp⟩ : ∃ b, span lo hi = b := ⟨_, rfl⟩
  have OK := Lib.hid hok
  have SP := Lib.hid hsp
  clear hok hsp
  have D := Lib.hid (show remOf rs lo hi = if ok && sp then few (rrem rs lo hi) else ([], false) by unfold remOf; rw [OK.out, SP.out])
  go_enter Try.func38, Try.ntmps38
  go_wp2_with fail
  with_reducible refine (valid_of (ivalid_any B A rs c w H.out hBw (Nat.le_trans hm (by decide))) OK.out).mono ?_
  rintro e w1 ⟨rfl, hB⟩
  have B1 := Lib.hid hB
  clear hB
  cases ok with
  | false =>
    go_wp2_with fail
    go_ret2
    exact pair_none D.out B1.out
  | true =>
    go_wp2_with fail
    with_reducible refine (isRange_any lo hi w1 sp SP.out).mono ?_
    rintro e w2 ⟨rfl, rfl⟩
    cases sp with
    | false =>
      go_wp2_with fail
      go_ret2
      exact pair_none D.out B1.out
    | true =>
      go_wp2_with fail
      have hs := (span_iff _ _).1 SP.out
      have hadd := irem_any B A rs c lo hi w1 (H.out.below (B1.out.mono hBw)) (Nat.le_trans hBw B1.out.size) hm (rvalid_rv OK.out) hs.1 hs.2.1 hs.2.2
      clear hs
      with_reducible refine hadd.mono ?_
      clear hadd
      intro e w2 hrow
      obtain ⟨A2, c2, qs, hq, rfl, hO, hB⟩ := row_any hrow
      have B2 := Lib.hid (drew2 B1.out hB.out)
      have O2 := Lib.hid (hO.out.mono B1.out.size)
      clear hO hB hrow
      by_cases hl : qs.length ≤ 16
      · have D2 := Lib.hid (show remOf rs lo hi = (qs, true) by rw [D.out, ← hq.out]; exact few_le hl)
        go_wp2_with fail
        with_reducible refine (few_yes A2 qs.length c2 w2 hl).mono ?_
        rintro e w3 ⟨rfl, rfl⟩
        go_wp2
        go_ret2
        exact pair_list D2.out O2.out B2.out
      · have D2 := Lib.hid (show remOf rs lo hi = ([], false) by rw [D.out, ← hq.out]; exact few_gt (by omega))
        go_wp2_with fail
        with_reducible refine (few_no A2 qs.length c2 w2 (by omega)).mono ?_
        rintro e w3 ⟨rfl, rfl⟩
        go_wp2
        go_ret2
        exact pair_none D2.out B2.out
set_option maxHeartbeats 800000 in
theorem sremAll_any (B : Nat) (A : Option Addr) (rs : List Rg) (c : Nat) (lo hi : Int) (w : World) (h : RsIn w B A rs) (hBw : B ≤ w.heap.size) (hm : rs.length ≤ 2000000) :
    Calls Try.prog 37 #[.slice A rs.length c, .int .i64 lo, .int .i64 hi] w (PairPost w (remOf rs lo hi)) := by
  have H := Lib.hid h
  clear h
  obtain ⟨ok, hok⟩ : ∃ b, rvalid rs = b := ⟨_, rfl⟩
  obtain ⟨sp, hsp⟩ : ∃ b, span lo hi = b := ⟨_, rfl⟩
  have OK := Lib.hid hok
  have SP := Lib.hid hsp
  clear hok hsp
  have D := Lib.hid (show remOf rs lo hi = if ok && sp then few (rrem rs lo hi) else ([], false) by unfold remOf; rw [OK.out, SP.out])
  go_enter Try.func37, Try.ntmps37
  go_wp2_with fail
  with_reducible refine (valid_of (svalid_any B A rs c w H.out hBw (Nat.le_trans hm (by decide))) OK.out).mono ?_
  rintro e w1 ⟨rfl, hB⟩
  have B1 := Lib.hid hB
  clear hB
  cases ok with
  | false =>
    go_wp2_with fail
    go_ret2
    exact pair_empty D.out B1.out
  | true =>
    go_wp2_with fail
    with_reducible refine (span_any lo hi w1 sp SP.out).mono ?_
    rintro e w2 ⟨rfl, rfl⟩
    cases sp with
    | false =>
      go_wp2_with fail
      go_ret2
      exact pair_empty D.out B1.out
    | true =>
      go_wp2_with fail
      have hs := (span_iff _ _).1 SP.out
      have hadd := srem_any B A rs c lo hi w1 (H.out.below (B1.out.mono hBw)) (Nat.le_trans hBw B1.out.size) hm (rvalid_rv OK.out) hs.1 hs.2.1 hs.2.2
      clear hs
      with_reducible refine hadd.mono ?_
      clear hadd
      intro e w2 hrow
      obtain ⟨A2, c2, qs, hq, rfl, hO, hB⟩ := row_any hrow
      have B2 := Lib.hid (drew2 B1.out hB.out)
      have O2 := Lib.hid (hO.out.mono B1.out.size)
      clear hO hB hrow
      by_cases hl : qs.length ≤ 16
      · have D2 := Lib.hid (show remOf rs lo hi = (qs, true) by rw [D.out, ← hq.out]; exact few_le hl)
        go_wp2_with fail
        go_ret2
        exact pair_list D2.out O2.out B2.out
      · have D2 := Lib.hid (show remOf rs lo hi = ([], false) by rw [D.out, ← hq.out]; exact few_gt (by omega))
        go_wp2_with fail
        go_ret2
        exact pair_empty D2.out B2.out
end Go.Proofs.Ytclfkkapahdgaaa
