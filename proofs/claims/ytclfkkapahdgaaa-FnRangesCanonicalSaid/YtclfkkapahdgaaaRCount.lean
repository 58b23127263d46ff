/- Contracts of the count of a set, the program's and the reference's. No condition but that the slice reads as the list. -/
import Derived.Test.YtclfkkapahdgaaaRValid
namespace Go.Proofs.Ytclfkkapahdgaaa
open Go.RowKit
def IntPost (w : World) (n : Int) (e : Ending) (w' : World) : Prop := e = .returned (.int .i64 n) ∧ Below w.heap.size w w'
theorem ret_int {a b : Int} (h : a = b) : Ending.returned (.int .i64 a) = Ending.returned (.int .i64 b) := by rw [h]
set_option maxHeartbeats 1600000 in
theorem icount_any (B : Nat) (A : Option Addr) (rs : List Rg) (c : Nat) (w : World) (h : RsIn w B A rs) (hBw : B ≤ w.heap.size) (hm : rs.length ≤ 1000000000000) :
    Calls Try.prog 27 #[.slice A rs.length c] w (IntPost w (rcount rs)) := by
  have H := Lib.hid h
  clear h
  go_enter Try.func27, Try.ntmps27
  go_wp2_with fail
  with_reducible refine (ivalid_any B A rs c w H.out hBw hm).mono ?_
  rintro e wv ⟨rfl, hBv⟩
  have HV := Lib.hid hBv
  clear hBv
  have RC := Lib.hid (show rcount rs = if rvalid rs then rsum rs else -1 from rfl)
  have VL := Lib.hid (rvalid_rv (rs := rs))
  generalize rvalid rs = ok at RC VL ⊢
  cases ok with
  | false =>
    have D := Lib.hid (show (-1 : Int) = rcount rs by rw [RC.out]; rfl)
    go_wp2_with fail
    go_ret
    exact ⟨ret_int D.out, HV.out⟩
  | true =>
    have D := Lib.hid (show rsum rs = rcount rs by rw [RC.out]; rfl)
    have V := Lib.hid (VL.out rfl)
    clear RC VL
    go_wp2_with fail
    go_loopw [3, 11] (fun t i wr => ∃ (k : Nat) (la c : Int), k ≤ rs.length ∧ i = .int .i64 k ∧ t = .int .i64 c ∧ -2 ≤ la ∧ la ≤ 999 ∧ 0 ≤ c ∧ c ≤ la + 2 ∧ Hid (rv la (rs.drop k) = true) ∧ Hid (rsum rs = c + rsum (rs.drop k)) ∧ Hid (Below w.heap.size w wr)) (fun _ i _ => rs.length - (intOf i).toNat)
    case atStart => exact ⟨0, -2, 0, Nat.zero_le _, rfl, rfl, by omega, by omega, by omega, by omega, V.out, (Int.zero_add _).symm, HV.out⟩
    case round =>
      obtain ⟨k, la, c, hk, rfl, rfl, hla0, hla1, hc0, hc1, hv, hs, hB⟩ := hrel
      by_cases hlt : k < rs.length
      · obtain ⟨b, off, rfl, hbB, hc⟩ := (H.out.below (hB.out.mono hBw)) (by omega)
        obtain ⟨g1, g2⟩ := hc k hlt
        have R := rv_step hlt hv.out
        have S := Lib.hid (rsum_drop_succ hlt)
        have hb : b < wr.heap.size := by have := hB.out.size; omega
        have HB := Lib.hid (hB.out.alloc hB.out.size)
        clear hc
        generalize rs.getD k (0, 0) = p at g1 g2 R S
        obtain ⟨x, y⟩ := p
        simp only at g1 g2 R S
        obtain ⟨r1, r2, r3, r4⟩ := R
        have R4 := Lib.hid r4
        clear r4
        go_wp2_with fail
        go_roundw
        case rel => exact ⟨k + 1, y, c + (y - x + 1), by omega, by go_num, by go_num, by omega, by omega, by omega, by omega, R4.out, (show rsum rs = c + (y - x + 1) + rsum (rs.drop (k + 1)) by rw [hs.out, S.out]; omega), HB.out _⟩
        case measure => simp [intOf]; omega
      · have hk' : k = rs.length := by omega
        have E := Lib.hid (show c = rcount rs by rw [← D.out, hs.out, hk', List.drop_length]; exact (Int.add_zero _).symm)
        clear hk'
        go_wp2_with fail
        go_ret
        exact ⟨ret_int E.out, hB.out⟩
set_option maxHeartbeats 1600000 in
theorem scount_any (B : Nat) (A : Option Addr) (rs : List Rg) (c : Nat) (w : World) (h : RsIn w B A rs) (hBw : B ≤ w.heap.size) (hm : rs.length ≤ 1000000000000) :
    Calls Try.prog 26 #[.slice A rs.length c] w (IntPost w (rcount rs)) := by
  have H := Lib.hid h
  clear h
  go_enter Try.func26, Try.ntmps26
  go_wp2_with fail
  with_reducible refine (svalid_any B A rs c w H.out hBw hm).mono ?_
  rintro e wv ⟨rfl, hBv⟩
  have HV := Lib.hid hBv
  clear hBv
  have RC := Lib.hid (show rcount rs = if rvalid rs then rsum rs else -1 from rfl)
  have VL := Lib.hid (rvalid_rv (rs := rs))
  generalize rvalid rs = ok at RC VL ⊢
  cases ok with
  | false =>
    have D := Lib.hid (show (-1 : Int) = rcount rs by rw [RC.out]; rfl)
    go_wp2_with fail
    go_ret
    exact ⟨ret_int D.out, HV.out⟩
  | true =>
    have D := Lib.hid (show rsum rs = rcount rs by rw [RC.out]; rfl)
    have V := Lib.hid (VL.out rfl)
    clear RC VL
    go_wp2_with fail
    go_loopw [3, 4] (fun t i wr => ∃ (k : Nat) (la c : Int), k ≤ rs.length ∧ i = .int .i64 k ∧ t = .int .i64 c ∧ -2 ≤ la ∧ la ≤ 999 ∧ 0 ≤ c ∧ c ≤ la + 2 ∧ Hid (rv la (rs.drop k) = true) ∧ Hid (rsum rs = c + rsum (rs.drop k)) ∧ Hid (Below w.heap.size w wr)) (fun _ i _ => rs.length - (intOf i).toNat)
    case atStart => exact ⟨0, -2, 0, Nat.zero_le _, rfl, rfl, by omega, by omega, by omega, by omega, V.out, (Int.zero_add _).symm, HV.out⟩
    case round =>
      obtain ⟨k, la, c, hk, rfl, rfl, hla0, hla1, hc0, hc1, hv, hs, hB⟩ := hrel
      by_cases hlt : k < rs.length
      · obtain ⟨b, off, rfl, hbB, hc⟩ := (H.out.below (hB.out.mono hBw)) (by omega)
        obtain ⟨g1, g2⟩ := hc k hlt
        have R := rv_step hlt hv.out
        have S := Lib.hid (rsum_drop_succ hlt)
        have j1 : (k : Int) < (rs.length : Int) := by omega
        clear hc
        generalize rs.getD k (0, 0) = p at g1 g2 R S
        obtain ⟨x, y⟩ := p
        simp only at g1 g2 R S
        obtain ⟨r1, r2, r3, r4⟩ := R
        have R4 := Lib.hid r4
        clear r4
        have s1 := IntWalk.i64_in (c + y) (by omega)
        have s2 := IntWalk.i64_in (c + y - x) (by omega)
        have s3 := IntWalk.i64_in (c + y - x + 1) (by omega)
        go_wp2_with fail
        go_quiet (fail)
        go_wp2
        go_roundw
        case rel => exact ⟨k + 1, y, c + y - x + 1, by omega, by go_num, rfl, by omega, by omega, by omega, by omega, R4.out, (show rsum rs = c + y - x + 1 + rsum (rs.drop (k + 1)) by rw [hs.out, S.out]; omega), below_drewN hB.out _⟩
        case measure => simp [intOf]; omega
      · have hk' : k = rs.length := by omega
        have E := Lib.hid (show c = rcount rs by rw [← D.out, hs.out, hk', List.drop_length]; exact (Int.add_zero _).symm)
        clear hk'
        go_wp2_with fail
        go_ret
        exact ⟨ret_int E.out, hB.out⟩
end Go.Proofs.Ytclfkkapahdgaaa
