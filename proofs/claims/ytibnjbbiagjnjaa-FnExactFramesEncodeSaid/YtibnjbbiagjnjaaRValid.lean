/- Contracts of the validity of ranges, the program's and the reference's. No condition but that the slice reads as the list. -/
import Derived.Test.YtibnjbbiagjnjaaRng
import Derived.Test.YtibnjbbiagjnjaaRMath
namespace Go.Proofs.Ytibnjbbiagjnjaa
open Go.RowKit
def BoolPost (w : World) (b : Bool) (e : Ending) (w' : World) : Prop := e = .returned (.bool b) ∧ Below w.heap.size w w'
set_option maxHeartbeats 800000 in
theorem ivalid_any (B : Nat) (A : Option Addr) (rs : List Rg) (c : Nat) (w : World) (h : RsIn w B A rs) (hBw : B ≤ w.heap.size) (hm : rs.length ≤ 1000000000000) :
    Calls Try.prog 42 #[.slice A rs.length c] w (BoolPost w (rvalid rs)) := by
  have H := Lib.hid h
  clear h
  by_cases hl : 16 < rs.length
  · have D := Lib.hid (show false = rvalid rs by unfold rvalid; rw [decide_eq_false (by omega)]; rfl)
    go_enter Try.func42, Try.ntmps42
    go_wp2_with fail
    go_ret
    exact ⟨ret_bool D.out, Below.refl _ _⟩
  · have hl' : rs.length ≤ 16 := by omega
    have V := Lib.hid (show rvalid rs = rv (-2) rs by unfold rvalid; rw [decide_eq_true hl']; rfl)
    go_enter Try.func42, Try.ntmps42
    go_wp2_with fail
    go_loopw [3, 5, 11] (fun l _ i wr => ∃ (k : Nat) (la : Int), k ≤ rs.length ∧ i = .int .i64 k ∧ l = .int .i64 la ∧ -2 ≤ la ∧ la ≤ 999 ∧ Hid (rv (-2) rs = rv la (rs.drop k)) ∧ Hid (Below w.heap.size w wr)) (fun _ _ i _ => rs.length - (intOf i).toNat)
    case atStart => exact ⟨0, -2, Nat.zero_le _, rfl, rfl, by omega, by omega, rfl, Below.refl _ _⟩
    case round =>
      obtain ⟨k, la, hk, rfl, rfl, hla0, hla1, hv, hB⟩ := hrel
      by_cases hlt : k < rs.length
      · obtain ⟨b, off, rfl, hbB, hc⟩ := (H.out.below (hB.out.mono hBw)) (by omega)
        obtain ⟨g1, g2⟩ := hc k hlt
        have R := Lib.hid (rv_drop_succ hlt la)
        have hb : b < wr.heap.size := by have := hB.out.size; omega
        have HB := Lib.hid (hB.out.alloc hB.out.size)
        clear hc
        generalize rs.getD k (0, 0) = p at g1 g2 R
        obtain ⟨x, y⟩ := p
        simp only at g1 g2 R
        by_cases c1 : x < la + 2
        · have D := Lib.hid (show false = rvalid rs by rw [V.out, hv.out, R.out, decide_eq_false (by omega)]; rfl)
          go_wp2_with fail
          go_ret
          exact ⟨ret_bool D.out, HB.out _⟩
        · by_cases c2 : y < x
          · have D := Lib.hid (show false = rvalid rs by rw [V.out, hv.out, R.out, decide_eq_false (show ¬ x ≤ y by omega), Bool.and_false]; rfl)
            go_wp2_with fail
            go_ret
            exact ⟨ret_bool D.out, HB.out _⟩
          · by_cases c3 : 999 < y
            · have D := Lib.hid (show false = rvalid rs by rw [V.out, hv.out, R.out, decide_eq_false (show ¬ y ≤ 999 by omega), Bool.and_false]; rfl)
              go_wp2_with fail
              go_ret
              exact ⟨ret_bool D.out, HB.out _⟩
            · have E := Lib.hid (show rv (-2) rs = rv y (rs.drop (k + 1)) by rw [hv.out, R.out, decide_eq_true (show la + 2 ≤ x by omega), decide_eq_true (show x ≤ y by omega), decide_eq_true (show y ≤ 999 by omega)]; rfl)
              go_wp2_with fail
              go_roundw
              case rel => exact ⟨k + 1, y, by omega, by go_num, rfl, by omega, by omega, E.out, HB.out _⟩
              case measure => simp [intOf]; omega
      · have hk' : k = rs.length := by omega
        have D := Lib.hid (show true = rvalid rs by rw [V.out, hv.out, hk', rv_end])
        clear hk'
        go_wp2_with fail
        go_ret
        exact ⟨ret_bool D.out, hB.out⟩
set_option maxHeartbeats 3200000 in
theorem svalid_any (B : Nat) (A : Option Addr) (rs : List Rg) (c : Nat) (w : World) (h : RsIn w B A rs) (hBw : B ≤ w.heap.size) (hm : rs.length ≤ 1000000000000) :
    Calls Try.prog 56 #[.slice A rs.length c] w (BoolPost w (rvalid rs)) := by
  have H := Lib.hid h
  clear h
  go_enter Try.func56, Try.ntmps56
  go_wp2_with fail
  go_loopw [3] (fun i wr => ∃ (k : Nat) (la : Int), k ≤ rs.length ∧ i = .int .i64 k ∧ -2 ≤ la ∧ la ≤ 999 ∧ Hid (k = 0 ∧ la = -2 ∨ 0 < k ∧ 0 ≤ la ∧ la = (rs.getD (k - 1) (0, 0)).2) ∧ Hid (rv (-2) rs = rv la (rs.drop k)) ∧ Hid (Below w.heap.size w wr)) (fun i _ => rs.length - (intOf i).toNat)
  case atStart => exact ⟨0, -2, Nat.zero_le _, rfl, by omega, by omega, .inl ⟨rfl, rfl⟩, rfl, Below.refl _ _⟩
  case round =>
    obtain ⟨k, la, hk, rfl, hla0, hla1, hp, hv, hB⟩ := hrel
    by_cases hlt : k < rs.length
    · obtain ⟨b, off, rfl, hbB, hc⟩ := (H.out.below (hB.out.mono hBw)) (by omega)
      obtain ⟨g1, g2⟩ := hc k hlt
      have R := Lib.hid (rv_drop_succ hlt la)
      have j1 : (k : Int) < (rs.length : Int) := by omega
      have NX := Lib.hid (show (rs.getD (k + 1 - 1) (0, 0)).2 = (rs.getD k (0, 0)).2 from rfl)
      have HC := Lib.hid hc
      clear hc
      obtain ⟨p, hpp⟩ : ∃ p, p = rs.getD k (0, 0) := ⟨_, rfl⟩
      rw [← hpp] at g1 g2 R NX
      clear hpp
      obtain ⟨x, y⟩ := p
      simp only at g1 g2 R NX
      by_cases c1 : x < 0
      · have D := Lib.hid (show false = rvalid rs by unfold rvalid; rw [hv.out, R.out, decide_eq_false (show ¬ la + 2 ≤ x by omega), Bool.false_and, Bool.false_and, Bool.false_and, Bool.and_false])
        have d1 : decide (x < 0) = true := by simpa using c1
        go_wp2_with fail
        go_quiet (fail)
        go_wp2
        go_ret
        exact ⟨ret_bool D.out, below_drewN hB.out _⟩
      · have d1 : decide (x < 0) = false := by simpa using c1
        by_cases c2 : y < x
        · have D := Lib.hid (show false = rvalid rs by unfold rvalid; rw [hv.out, R.out, decide_eq_false (show ¬ x ≤ y by omega), Bool.and_false, Bool.false_and, Bool.false_and, Bool.and_false])
          have d2 : decide (y < x) = true := by simpa using c2
          go_wp2_with fail
          go_quiet (fail)
          go_wp2
          go_ret
          exact ⟨ret_bool D.out, below_drewN hB.out _⟩
        · have d2 : decide (y < x) = false := by simpa using c2
          by_cases c3 : 999 < y
          · have D := Lib.hid (show false = rvalid rs by unfold rvalid; rw [hv.out, R.out, decide_eq_false (show ¬ y ≤ 999 by omega), Bool.and_false, Bool.false_and, Bool.and_false])
            have d3 : decide (999 < y) = true := by simpa using c3
            go_wp2_with fail
            go_quiet (fail)
            go_wp2
            go_ret
            exact ⟨ret_bool D.out, below_drewN hB.out _⟩
          · have d3 : decide (999 < y) = false := by simpa using c3
            by_cases k0 : k = 0
            · have hla : la = -2 := by have := hp.out; omega
              have E := Lib.hid (show rv (-2) rs = rv y (rs.drop (k + 1)) by rw [hv.out, R.out, decide_eq_true (show la + 2 ≤ x by omega), decide_eq_true (show x ≤ y by omega), decide_eq_true (show y ≤ 999 by omega)]; rfl)
              have d4 : decide (0 < k) = false := by simp; omega
              have K0 := Lib.hid k0
              clear k0 hla
              go_wp2_with fail
              go_quiet (fail)
              go_wp2
              go_roundw
              case rel => exact ⟨k + 1, y, by omega, by go_num, by omega, by omega, .inr ⟨by omega, by omega, NX.out.symm⟩, E.out, below_drewN hB.out _⟩
              case measure => simp [intOf]; omega
            · have hla : 0 ≤ la ∧ la = (rs.getD (k - 1) (0, 0)).2 := by have := hp.out; omega
              have g3 := (HC.out (k - 1) (by omega)).2
              rw [← hla.2] at g3
              have hl0 := hla.1
              have d4 : decide (0 < k) = true := by simp; omega
              have s1 := IntWalk.i64_in ((k : Int) - 1) (by omega)
              have s2 : 0 ≤ (k : Int) - 1 := by omega
              have s3 : ((k : Int) - 1).toNat = k - 1 := by omega
              have s4 := IntWalk.i64_in (la + 2) (by omega)
              have s5 : (k : Int) - 1 < (rs.length : Int) := by omega
              clear hla
              by_cases c5 : x < la + 2
              · have D := Lib.hid (show false = rvalid rs by unfold rvalid; rw [hv.out, R.out, decide_eq_false (show ¬ la + 2 ≤ x by omega), Bool.false_and, Bool.false_and, Bool.false_and, Bool.and_false])
                have d5 : decide (x < la + 2) = true := by simpa using c5
                go_wp2_with fail
                go_quiet (fail)
                go_wp2
                go_ret
                exact ⟨ret_bool D.out, below_drewN hB.out _⟩
              · have d5 : decide (x < la + 2) = false := by simpa using c5
                have E := Lib.hid (show rv (-2) rs = rv y (rs.drop (k + 1)) by rw [hv.out, R.out, decide_eq_true (show la + 2 ≤ x by omega), decide_eq_true (show x ≤ y by omega), decide_eq_true (show y ≤ 999 by omega)]; rfl)
                go_wp2_with fail
                go_quiet (fail)
                go_wp2
                go_roundw
                case rel => exact ⟨k + 1, y, by omega, by go_num, by omega, by omega, .inr ⟨by omega, by omega, NX.out.symm⟩, E.out, below_drewN hB.out _⟩
                case measure => simp [intOf]; omega
    · have hk' : k = rs.length := by omega
      have D := Lib.hid (show decide ((rs.length : Int) ≤ 16) = rvalid rs by unfold rvalid; rw [hv.out, hk', rv_end, Bool.and_true]; congr 1; exact propext ⟨fun h => by omega, fun h => by omega⟩)
      clear hk'
      go_wp2_with fail
      go_ret
      exact ⟨ret_bool (by first | exact D.out | (rw [← D.out]; simp)), hB.out⟩
end Go.Proofs.Ytibnjbbiagjnjaa
