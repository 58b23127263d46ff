/- Contracts of the gaps of a set, the program's and the reference's. No condition but that the slice reads as the list. -/
import Derived.Test.YtclfkkapahdgaaaRValid
import Derived.Test.YtclfkkapahdgaaaRStep
namespace Go.Proofs.Ytclfkkapahdgaaa
open Go.RowKit
/-- The call gives a slice of its own that reads as rs. -/
def RowPost (w : World) (rs : List Rg) (e : Ending) (w' : World) : Prop := ∃ A c, e = .returned (.slice A rs.length c) ∧ OwnRs w' w.heap.size A c rs ∧ Below w.heap.size w w'
set_option maxHeartbeats 1600000 in
theorem igaps_any (B : Nat) (A : Option Addr) (rs : List Rg) (c : Nat) (w : World) (h : RsIn w B A rs) (hBw : B ≤ w.heap.size) (hm : rs.length ≤ 1000000000000) :
    Calls Try.prog 32 #[.slice A rs.length c] w (RowPost w (gapsOf rs)) := by
  have H := Lib.hid h
  clear h
  obtain ⟨ok, hok⟩ : ∃ b, rvalid rs = b := ⟨_, rfl⟩
  have OK := Lib.hid hok
  clear hok
  go_enter Try.func32, Try.ntmps32
  go_wp2_with fail
  have hv := ivalid_any B A rs c w H.out hBw hm
  rw [OK.out] at hv
  with_reducible refine hv.mono ?_
  clear hv
  rintro e wv ⟨rfl, hBv⟩
  have HV := Lib.hid hBv
  clear hBv
  cases ok with
  | false =>
    have D := Lib.hid (show gapsOf rs = [] by unfold gapsOf; rw [OK.out]; rfl)
    go_wp2_with fail
    go_ret
    exact ⟨none, 0, by rw [D.out]; rfl, by rw [D.out]; exact OwnRs.nil _ _, HV.out⟩
  | true =>
    have D := Lib.hid (show gapsOf rs = rgaps rs by unfold gapsOf; rw [OK.out]; rfl)
    have V := Lib.hid (rvalid_rv OK.out)
    have hlen := rvalid_len OK.out
    go_wp2_with fail
    go_loopw [3, 4] (fun o i wr => ∃ (k : Nat) (la : Int) (Ao : Option Addr) (co : Nat) (out : List Rg), 1 ≤ k ∧ k ≤ rs.length + 1 ∧ i = .int .i64 k ∧ o = .slice Ao out.length co ∧ Hid (out = rgaps (rs.take k)) ∧ out.length ≤ k ∧ Hid (OwnRs wr w.heap.size Ao co out) ∧ Hid (Below w.heap.size w wr) ∧ Hid (k ≤ rs.length → 0 ≤ la ∧ la ≤ 999 ∧ la = (rs.getD (k - 1) (0, 0)).2 ∧ rv la (rs.drop k) = true)) (fun _ i _ => rs.length + 1 - (intOf i).toNat)
    case atStart =>
      refine ⟨1, (rs.getD 0 (0, 0)).2, none, 0, [], by omega, by omega, rfl, rfl, (rgaps_take_one rs).symm, by simp, OwnRs.nil _ _, HV.out, fun hk => ?_⟩
      have := rv_step (rs := rs) (k := 0) (by omega) (last := -2) V.out
      exact ⟨by omega, by omega, rfl, this.2.2.2⟩
    case round =>
      obtain ⟨k, la, Ao, co, out, hk1, hk, rfl, rfl, ho, hol, hO, hB, hla⟩ := hrel
      by_cases hlt : k < rs.length
      · obtain ⟨b, off, rfl, hbB, hc⟩ := (H.out.below (hB.out.mono hBw)) (by omega)
        have g1 := (hc k hlt).1
        have g2 := (hc (k - 1) (by omega)).2
        have R := hla.out (by omega)
        have S := rv_step hlt R.2.2.2
        have E := Lib.hid (rgaps_take_succ rs k hk1 hlt)
        clear hc
        obtain ⟨q, hq⟩ : ∃ q, q = rs.getD k (0, 0) := ⟨_, rfl⟩
        rw [← hq] at g1 E S
        have Q := Lib.hid hq
        clear hq
        rw [← R.2.2.1] at g2 E
        obtain ⟨x, y⟩ := q
        obtain ⟨r1, r2, r3, r4⟩ := R
        obtain ⟨t1, t2, t3, t4⟩ := S
        simp only at t1 t2 t3 t4 g1 E
        have R4 := Lib.hid r4
        have T4 := Lib.hid t4
        have R3 := Lib.hid r3
        clear r4 t4 r3
        obtain ⟨j, hj⟩ : ∃ j, k - 1 = j := ⟨_, rfl⟩
        rw [hj] at g2
        have s1 : IntKind.i64.wrap ((k : Int) - 1) = (j : Int) := by rw [IntWalk.i64_in ((k : Int) - 1) (by omega)]; omega
        have s4 := IntWalk.i64_in (la + 1) (by omega)
        have s5 : (j : Int) < (rs.length : Int) := by omega
        have s6 := IntWalk.i64_in (x - 1) (by omega)
        have j1 : (k : Int) < (rs.length : Int) := by omega
        have hbw : b < w.heap.size := by omega
        go_wp2_with fail
        go_region_held3 (fun w' => w'.cell? ⟨b, off + k * 2, none⟩ = some (.int .i64 x) ∧ w'.cell? ⟨b, off + j * 2 + 1, none⟩ = some (.int .i64 la)) (first | go_keep | (exact ⟨(hX.cell (p := ⟨b, off + k * 2, none⟩) hbw).trans g1, (hX.cell (p := ⟨b, off + j * 2 + 1, none⟩) hbw).trans g2⟩)) ((first | (refine step_append_rs (by rfl) _ _ (by rfl) w.heap.size Ao co out rfl ((hO.out.below (Below.refl _ _).drew).alloc _) _ _ _ [(la + 1, x - 1)] rfl (one_in _ _ _ _ rfl) (by simp only [List.length_cons, List.length_nil]; omega) (hB.out.drew.alloc hB.out.drew.size _).size ?_; intro A' c' w' hApp; have hX := ((Below.refl w.heap.size wr).drew.alloc hB.out.drew.size _).trans hApp.2.1)))
        have B2 := Lib.hid ((hB.out.drew.alloc hB.out.drew.size _).trans hApp.2.1)
        have O2 := Lib.hid hApp.1
        clear hApp hX
        have E2 := Lib.hid (show out ++ [(la + 1, x - 1)] = rgaps (rs.take (k + 1)) by rw [E.out, ← ho.out])
        go_wp2_with fail
        go_roundw
        case rel => exact ⟨k + 1, y, A', c', out ++ [(la + 1, x - 1)], by omega, by omega, by go_num, by rw [List.length_append]; rfl, E2.out, by simp; omega, O2.out, B2.out, fun _ => ⟨by omega, by omega, by rw [Nat.add_sub_cancel, ← Q.out], T4.out⟩⟩
        case measure => simp [intOf]; omega
      · have hk' : rs.take k = rs := List.take_of_length_le (by omega)
        have D2 := Lib.hid (show out = gapsOf rs by rw [D.out, ho.out, hk'])
        clear hk'
        go_wp2_with fail
        go_ret
        exact ⟨Ao, co, by rw [← D2.out]; rfl, by rw [← D2.out]; exact hO.out, hB.out⟩
end Go.Proofs.Ytclfkkapahdgaaa
