/- The reference's derivable atoms as the plain law's set: contracts of spec.l11Derive and spec.Derive. No condition beyond those in each theorem. -/
import Derived.Test.YtamddfacmmjglaaDRow
namespace Go.Proofs.Ytamddfacmmjglaa
open Go.RowKit
set_option linter.unusedVariables false
set_option maxHeartbeats 3200000 in
theorem sder_any (B B' : Nat) (A A' : Option Addr) (bs : List Bx) (ks : List Int) (c c' : Nat) (w : World) (h : BxIn w B A bs) (h' : IntsIn w B' A' ks) (hBw : B ≤ w.heap.size) (hBw' : B' ≤ w.heap.size) (hb : bvalid bs = true) (hk : kvalid ks = true) :
    Calls Try.prog 34 #[.slice A bs.length c, .slice A' ks.length c', .int .i64 0] w fun e w' => e = .returned (.slice (some ⟨w.heap.size, 0, none⟩) 21 21) ∧ HRow w' w.heap.size w.heap.size (der bs ks) ∧ Below w.heap.size w w' := by
  have H := Lib.hid h
  have H' := Lib.hid h'
  have KA := Lib.hid (fun k (hk' : k < ks.length) => kvalid_atom hk (getD_mem' hk'))
  have BA := Lib.hid (fun k (hk' : k < bs.length) => bvalid_box hb (bgetD_mem hk'))
  have lb : bs.length ≤ 10 := by unfold bvalid at hb; rw [Bool.and_eq_true, decide_eq_true_eq] at hb; exact hb.1
  have lk : ks.length ≤ 20 := by unfold kvalid at hk; rw [Bool.and_eq_true, decide_eq_true_eq] at hk; exact hk.1
  have hmk := fun W => make_row W
  have O0 := Lib.hid (HRow.made w)
  generalize (brow 0).toArray = zs at hmk O0
  clear h h' hb hk
  go_enter Try.func34, Try.ntmps34
  go_wp2_with fail
  go_loopw [8] (fun i wr => ∃ (k s : Nat), k ≤ ks.length ∧ i = .int .i64 k ∧ Hid (startOf ks = (ks.drop k).foldl put s) ∧ Hid (HRow wr w.heap.size w.heap.size s) ∧ Hid (Below w.heap.size w wr)) (fun i _ => ks.length - (intOf i).toNat)
  case atStart => exact ⟨0, 0, Nat.zero_le _, rfl, rfl, O0.out, (Below.refl _ _).alloc (Nat.le_refl _) _⟩
  case round =>
    obtain ⟨k, s, hk, rfl, hd, hR, hB⟩ := hrel
    by_cases hlt : k < ks.length
    · obtain ⟨b, off, rfl, hbB, hc⟩ := (H'.out.below (hB.out.mono hBw')) (by omega)
      have g1 := hc k hlt
      have a1 := KA.out k hlt
      have S := Lib.hid (puts_drop hlt s)
      clear hc
      generalize ks.getD k 0 = x at g1 a1 S
      obtain ⟨a0, a1⟩ := a1
      obtain ⟨g2, f2⟩ := hR.out.cell x.toNat (by omega)
      have R2 := Lib.hid (hR.out.stored x (by omega) a1)
      have B2 := Lib.hid (hB.out.setCell (p := ⟨w.heap.size, x.toNat, none⟩) (Nat.le_refl _) (.bool true))
      have D := Lib.hid (hd.out.trans S.out)
      generalize s.testBit x.toNat = u at g2
      go_wp2_with fail
      go_roundw
      case rel => exact ⟨k + 1, put s x, by omega, by go_num, D.out, R2.out, B2.out⟩
      case measure => simp [intOf]; omega
    · have hk' : k = ks.length := by omega
      have ST := Lib.hid (show startOf ks = s by rw [hd.out, hk', List.drop_length]; rfl)
      clear hk' hd
      go_wp2_with fail
      go_loopw [9] (fun i wr => ∃ (r s : Nat), r ≤ bs.length + 1 ∧ i = .int .i64 r ∧ Hid (s = iter bs r (startOf ks)) ∧ Hid (HRow wr w.heap.size w.heap.size s) ∧ Hid (Below w.heap.size w wr)) (fun i _ => bs.length + 1 - (intOf i).toNat)
      case atStart => exact ⟨0, s, by omega, rfl, ST.out.symm, hR.out, hB.out⟩
      case round =>
        clear ST
        obtain ⟨r, s0, hr, rfl, hi, hR, hB⟩ := hrel
        by_cases hlr : r ≤ bs.length
        · go_wp2_with fail
          go_loopw [10] (fun i wr => ∃ (k sm : Nat), k ≤ bs.length ∧ i = .int .i64 k ∧ Hid (round bs s0 = round (bs.drop k) sm) ∧ Hid (HRow wr w.heap.size w.heap.size sm) ∧ Hid (Below w.heap.size w wr)) (fun i _ => bs.length - (intOf i).toNat)
          case atStart => exact ⟨0, s0, Nat.zero_le _, rfl, rfl, hR.out, hB.out⟩
          case round =>
            obtain ⟨k, sm, hk, rfl, hd, hR, hB⟩ := hrel
            by_cases hlt : k < bs.length
            · obtain ⟨b, off, rfl, hbB, hcc⟩ := H.out (by omega)
              obtain ⟨Ai, ci, G1, G2, hI⟩ := hcc k hlt
              have ba := BA.out k hlt
              have S := Lib.hid (round_drop hlt sm)
              clear hcc
              generalize bs.getD k ⟨0, []⟩ = x at G1 G2 hI ba S
              obtain ⟨key, ins⟩ := x
              simp only at G1 G2 hI ba
              obtain ⟨⟨k0, k1⟩, ⟨l0, l1⟩, hins⟩ := ba
              have INS := Lib.hid (fun j (hj : j < ins.length) => hins _ (getD_mem' hj))
              have II := Lib.hid hI
              have hbw : b < w.heap.size := by omega
              have C1 := Lib.hid (fun W (hW : Below w.heap.size w W) => (hW.cell (p := ⟨b, off + k * 2, none⟩) hbw).trans G1)
              have C2 := Lib.hid (fun W (hW : Below w.heap.size w W) => (hW.cell (p := ⟨b, off + k * 2 + 1, none⟩) hbw).trans G2)
              clear hI hins G1 G2
              obtain ⟨q, hq⟩ : ∃ q, sm.testBit key.toNat = q := ⟨_, rfl⟩
              have Q := Lib.hid hq
              clear hq
              cases q with
              | false =>
                have E := Lib.hid (show round bs s0 = round (bs.drop (k + 1)) sm by rw [hd.out, S.out]; unfold boxStep; rw [Q.out]; rfl)
                go_wp2_with fail
                go_loopw [11] (fun i wr => i = .int .i64 0 ∧ Hid (HRow wr w.heap.size w.heap.size sm) ∧ Hid (Below w.heap.size w wr)) (fun _ _ => 0)
                case atStart => exact ⟨rfl, hR.out, hB.out⟩
                case round =>
                  clear hR hB
                  obtain ⟨rfl, hR, hB⟩ := hrel
                  have g1 := C1.out _ hB.out
                  have g2 := C2.out _ hB.out
                  obtain ⟨g3, f3⟩ := hR.out.cell key.toNat (by omega)
                  rw [Q.out] at g3
                  go_wp2_with fail
                  go_roundw
                  case rel => exact ⟨k + 1, sm, by omega, by go_num, E.out, hR.out, hB.out⟩
                  case measure => simp [intOf]; omega
              | true =>
                have E := Lib.hid (show round bs s0 = round (bs.drop (k + 1)) (ins.foldl put sm) by rw [hd.out, S.out]; unfold boxStep; rw [Q.out]; rfl)
                go_wp2_with fail
                go_loopw [11] (fun i wr => ∃ (j t : Nat), j ≤ ins.length ∧ i = .int .i64 j ∧ Hid (t.testBit key.toNat = true) ∧ Hid (ins.foldl put sm = (ins.drop j).foldl put t) ∧ Hid (HRow wr w.heap.size w.heap.size t) ∧ Hid (Below w.heap.size w wr)) (fun i _ => ins.length - (intOf i).toNat)
                case atStart => exact ⟨0, sm, Nat.zero_le _, rfl, Q.out, rfl, hR.out, hB.out⟩
                case round =>
                  clear hR hB
                  obtain ⟨j, t, hj, rfl, hT, hd2, hR, hB⟩ := hrel
                  have g1 := C1.out _ hB.out
                  have g2 := C2.out _ hB.out
                  obtain ⟨g3, f3⟩ := hR.out.cell key.toNat (by omega)
                  rw [hT.out] at g3
                  by_cases hlj : j < ins.length
                  · obtain ⟨bi, oi, hAi, _, hci⟩ := (II.out.below (hB.out.mono hBw)) (by omega)
                    subst hAi
                    have g4 := hci j hlj
                    clear hci
                    have a1 := INS.out j hlj
                    have T := Lib.hid (puts_drop hlj t)
                    generalize ins.getD j 0 = y at g4 a1 T
                    obtain ⟨a0, a1⟩ := a1
                    obtain ⟨g5, f5⟩ := hR.out.cell y.toNat (by omega)
                    have R2 := Lib.hid (hR.out.stored y (by omega) a1)
                    have B2 := Lib.hid (hB.out.setCell (p := ⟨w.heap.size, y.toNat, none⟩) (Nat.le_refl _) (.bool true))
                    have D := Lib.hid (hd2.out.trans T.out)
                    have T2 := Lib.hid ((put_bit t y key.toNat).2 (.inl hT.out))
                    generalize t.testBit y.toNat = u at g5
                    go_wp2_with fail
                    go_roundw
                    case rel => exact ⟨j + 1, put t y, by omega, by go_num, T2.out, D.out, R2.out, B2.out⟩
                    case measure => simp [intOf]; omega
                  · have hj' : j = ins.length := by omega
                    have F := Lib.hid (show round bs s0 = round (bs.drop (k + 1)) t by rw [E.out, hd2.out, hj', List.drop_length]; rfl)
                    clear hj'
                    go_wp2_with fail
                    go_roundw
                    case rel => exact ⟨k + 1, t, by omega, by go_num, F.out, hR.out, hB.out⟩
                    case measure => simp [intOf]; omega
            · have hk' : k = bs.length := by omega
              have F := Lib.hid (show sm = iter bs (r + 1) (startOf ks) by
                have h1 := hd.out
                rw [hk', List.drop_length] at h1
                show sm = round bs (iter bs r (startOf ks))
                rw [← hi.out, h1]; rfl)
              clear hk' hd
              go_wp2_with fail
              go_roundw
              case rel => exact ⟨r + 1, sm, by omega, by go_num, F.out, hR.out, hB.out⟩
              case measure => simp [intOf]; omega
        · have hr' : r = bs.length + 1 := by omega
          have F := Lib.hid (show s0 = der bs ks by rw [hi.out, hr']; rfl)
          have R2 := Lib.hid (F.out ▸ hR.out)
          clear hr'
          go_wp2_with fail
          go_ret
          exact ⟨rfl, R2.out, hB.out⟩
end Go.Proofs.Ytamddfacmmjglaa
