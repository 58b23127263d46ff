/- Contract of the reference's gaps of a set. No condition but that the slice reads as the list. -/
import Derived.Test.YtclfkkapahdgaaaRAddAll
namespace Go.Proofs.Ytclfkkapahdgaaa
open Go.RowKit
set_option linter.unusedVariables false
theorem rgaps_short {rs : List Rg} (h : ¬ 1 < rs.length) : rgaps rs = [] := by
  match rs, h with
  | [], _ => rfl
  | [_], _ => rfl
  | _ :: _ :: _, h => simp at h
set_option maxHeartbeats 1600000 in
theorem sgaps_any (B : Nat) (A : Option Addr) (rs : List Rg) (c : Nat) (w : World) (h : RsIn w B A rs) (hBw : B ≤ w.heap.size) (hm : rs.length ≤ 1000000000) :
    Calls Try.prog 31 #[.slice A rs.length c] w (RowPost w (gapsOf rs)) := by
  have H := Lib.hid h
  clear h
  have OE := Lib.hid (OwnRs.empty w w.heap.size (Nat.le_refl _))
  have BE := Lib.hid ((Below.refl w.heap.size w).alloc (Nat.le_refl _) (.cells #[] 38))
  by_cases hshort : 1 < rs.length
  · obtain ⟨ok, hok⟩ : ∃ b, rvalid rs = b := ⟨_, rfl⟩
    have OK := Lib.hid hok
    clear hok
    cases ok with
    | false =>
      have D := Lib.hid (show gapsOf rs = [] by unfold gapsOf; rw [OK.out]; rfl)
      go_enter Try.func31, Try.ntmps31
      go_wp2_with fail
      go_loopw [3, 4] (fun o i wr => ∃ (Ao : Option Addr), i = .int .i64 1 ∧ o = .slice Ao 0 0 ∧ Hid (OwnRs wr w.heap.size Ao 0 []) ∧ Hid (Below w.heap.size w wr)) (fun _ _ _ => 0)
      case atStart => exact ⟨_, rfl, rfl, OE.out, BE.out⟩
      case round =>
        clear OE BE
        obtain ⟨Ao, rfl, rfl, hO, hB⟩ := hrel
        go_wp2_with fail
        with_reducible refine (valid_of (svalid_any B A rs c wr (H.out.below (hB.out.mono hBw)) (Nat.le_trans hBw hB.out.size) (Nat.le_trans hm (by decide))) OK.out).mono ?_
        rintro e w1 ⟨rfl, hB1⟩
        have B1 := Lib.hid (drew2 hB.out hB1)
        have O1 := Lib.hid (hO.out.below hB1)
        clear hB1
        go_wp2_with fail
        go_ret
        exact ⟨Ao, 0, by rw [D.out]; rfl, by rw [D.out]; exact O1.out, B1.out⟩
    | true =>
      have D := Lib.hid (show gapsOf rs = rgaps rs by unfold gapsOf; rw [OK.out]; rfl)
      have V := Lib.hid (rvalid_rv OK.out)
      have hlen := rvalid_len OK.out
      go_enter Try.func31, Try.ntmps31
      go_wp2_with fail
      go_loopw [3, 4] (fun o i wr => ∃ (k : Nat) (la : Int) (Ao : Option Addr) (co : Nat) (out : List Rg), 1 ≤ k ∧ k ≤ rs.length ∧ i = .int .i64 k ∧ o = .slice Ao out.length co ∧ Hid (out = rgaps (rs.take k)) ∧ out.length ≤ k ∧ Hid (OwnRs wr w.heap.size Ao co out) ∧ Hid (Below w.heap.size w wr) ∧ 0 ≤ la ∧ la ≤ 999 ∧ Hid (la = (rs.getD (k - 1) (0, 0)).2) ∧ Hid (rv la (rs.drop k) = true)) (fun _ i _ => rs.length + 1 - (intOf i).toNat)
      case atStart =>
        have h1 := rv_step (rs := rs) (k := 0) (by omega) (last := -2) V.out
        exact ⟨1, (rs.getD 0 (0, 0)).2, _, 0, [], by omega, by omega, rfl, rfl, (rgaps_take_one rs).symm, by simp, OE.out, BE.out, by omega, by omega, rfl, h1.2.2.2⟩
      case round =>
        clear OE BE
        obtain ⟨k, la, Ao, co, out, hk1, hk, rfl, rfl, ho, hol, hO, hB, hla0, hla1, hla, hvk⟩ := hrel
        by_cases hlt : k < rs.length
        · go_wp2_with fail
          with_reducible refine (valid_of (svalid_any B A rs c wr (H.out.below (hB.out.mono hBw)) (Nat.le_trans hBw hB.out.size) (Nat.le_trans hm (by decide))) OK.out).mono ?_
          rintro e w1 ⟨rfl, hB1⟩
          have B1 := Lib.hid (drew2 hB.out hB1)
          have O1 := Lib.hid (hO.out.below hB1)
          clear hB1
          obtain ⟨b, off, rfl, hbB, hc⟩ := (H.out.below (B1.out.mono hBw)) (by omega)
          have g1 := (hc k hlt).1
          have g2 := (hc (k - 1) (by omega)).2
          have S := rv_step hlt hvk.out
          have E := Lib.hid (rgaps_take_succ rs k hk1 hlt)
          clear hc
          obtain ⟨q, hq⟩ : ∃ q, q = rs.getD k (0, 0) := ⟨_, rfl⟩
          rw [← hq] at g1 E S
          have Q := Lib.hid hq
          clear hq
          rw [← hla.out] at g2 E
          obtain ⟨x, y⟩ := q
          obtain ⟨t1, t2, t3, t4⟩ := S
          simp only at t1 t2 t3 t4 g1 E
          have T4 := Lib.hid t4
          clear t4
          obtain ⟨j, hj⟩ : ∃ j, k - 1 = j := ⟨_, rfl⟩
          rw [hj] at g2
          have s1 : IntKind.i64.wrap ((k : Int) - 1) = (j : Int) := by rw [IntWalk.i64_in ((k : Int) - 1) (by omega)]; omega
          have s4 := IntWalk.i64_in (la + 1) (by omega)
          have s5 : (j : Int) < (rs.length : Int) := by omega
          have s6 := IntWalk.i64_in (x - 1) (by omega)
          have j1 : (k : Int) < (rs.length : Int) := by omega
          have hbw : b < w.heap.size := by omega
          go_wp2_with fail
          go_region_held3 (fun w' => w'.cell? ⟨b, off + k * 2, none⟩ = some (.int .i64 x) ∧ w'.cell? ⟨b, off + j * 2 + 1, none⟩ = some (.int .i64 la)) (first | go_keep | (exact ⟨(hX.cell (p := ⟨b, off + k * 2, none⟩) hbw).trans g1, (hX.cell (p := ⟨b, off + j * 2 + 1, none⟩) hbw).trans g2⟩)) ((first | (refine step_append_one (by rfl) _ _ (by rfl) w.heap.size Ao co out (by rfl) (O1.out.below (Below.refl _ _).drew) _ (by rfl) (by first | rfl | simp) (by omega) B1.out.drew.size ?_; intro A' c' w' qs hqs hql O2 hB2 hg2; have hX := (Below.refl w.heap.size w1).drew.trans hB2.out)))
          have B2 := Lib.hid (B1.out.trans hX)
          clear hX
          have E2 := Lib.hid (show qs = rgaps (rs.take (k + 1)) by rw [hqs.out, E.out, ← ho.out])
          go_wp2_with fail
          go_roundw
          case rel => exact ⟨k + 1, y, A', c', qs, by omega, by omega, by go_num, rfl, E2.out, by rw [hql.out]; omega, O2.out, B2.out, by omega, by omega, by rw [Nat.add_sub_cancel, ← Q.out]; exact Lib.hid rfl, T4.out⟩
          case measure => simp [intOf]; omega
        · have hk' : rs.take k = rs := List.take_of_length_le (by omega)
          have D2 := Lib.hid (show out = gapsOf rs by rw [D.out, ho.out, hk'])
          clear hk'
          go_wp2_with fail
          go_ret
          exact ⟨Ao, co, by rw [← D2.out]; rfl, by rw [← D2.out]; exact hO.out, hB.out⟩
  · have D := Lib.hid (show gapsOf rs = [] by unfold gapsOf; rw [rgaps_short hshort]; split <;> rfl)
    go_enter Try.func31, Try.ntmps31
    go_wp2_with fail
    go_loopw [3, 4] (fun o i wr => ∃ (Ao : Option Addr), i = .int .i64 1 ∧ o = .slice Ao 0 0 ∧ Hid (OwnRs wr w.heap.size Ao 0 []) ∧ Hid (Below w.heap.size w wr)) (fun _ _ _ => 0)
    case atStart => exact ⟨_, rfl, rfl, OE.out, BE.out⟩
    case round =>
      clear OE BE
      obtain ⟨Ao, rfl, rfl, hO, hB⟩ := hrel
      go_wp2_with fail
      go_ret
      exact ⟨Ao, 0, by rw [D.out]; rfl, by rw [D.out]; exact hO.out, hB.out⟩
end Go.Proofs.Ytclfkkapahdgaaa
