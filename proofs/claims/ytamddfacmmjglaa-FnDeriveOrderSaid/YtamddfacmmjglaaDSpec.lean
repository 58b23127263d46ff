/- The reference's derivable atoms: contracts of spec.l11Known, spec.l11Derive, spec.Derive. No condition beyond those in each theorem. -/
import Derived.Test.YtamddfacmmjglaaDList
namespace Go.Proofs.Ytamddfacmmjglaa
open Go.RowKit
set_option linter.unusedVariables false
set_option maxHeartbeats 800000 in
theorem sknown_any (B : Nat) (A : Option Addr) (ks : List Int) (c : Nat) (w : World) (r : Bool) (h : IntsIn w B A ks) (hm : ks.length ≤ 1000000000000) (hr : kvalid ks = r) :
    Calls Try.prog 33 #[.slice A ks.length c] w fun e w' => e = .returned (.bool r) ∧ w = w' := by
  have H := Lib.hid h
  have R := Lib.hid hr
  have V := Lib.hid (fun (h : ks.all isAtom = false) => (show false = r by rw [← R.out]; unfold kvalid; rw [h, Bool.and_false]))
  clear h hr
  go_enter Try.func33, Try.ntmps33
  go_wp2_with fail
  go_loop [3] (fun i => ∃ k : Nat, k ≤ ks.length ∧ i = .int .i64 k ∧ Hid (ks.all isAtom = (ks.drop k).all isAtom)) (fun i => ks.length - (intOf i).toNat)
  case atStart => exact ⟨0, Nat.zero_le _, rfl, rfl⟩
  case round =>
    obtain ⟨k, hk, rfl, ha⟩ := hrel
    by_cases hlt : k < ks.length
    · obtain ⟨b, off, rfl, hbB, hc⟩ := H.out (by omega)
      have g1 := hc k hlt
      clear hc
      have S := Lib.hid (all_drop_succ hlt)
      generalize ks.getD k 0 = x at g1 S
      obtain ⟨q, hq⟩ : ∃ q, isAtom x = q := ⟨_, rfl⟩
      have Q := Lib.hid hq
      clear hq
      go_wp2_with fail
      refine (satom_is x _ q Q.out).mono ?_
      rintro e w2 ⟨rfl, rfl⟩
      cases q with
      | false =>
        have D := Lib.hid (V.out (by rw [ha.out, S.out, Q.out]; rfl))
        go_wp2
        go_ret
        exact ⟨ret_bool D.out, rfl⟩
      | true =>
        have E := Lib.hid (show ks.all isAtom = (ks.drop (k + 1)).all isAtom by rw [ha.out, S.out, Q.out]; rfl)
        go_wp2
        go_round
        case rel => exact ⟨k + 1, by omega, by go_num, E.out⟩
        case measure => simp [intOf]; omega
    · have hk' : k = ks.length := by omega
      have D := Lib.hid (show decide ((ks.length : Int) ≤ 20) = r by
        rw [← R.out]; unfold kvalid; rw [ha.out, hk', List.drop_length]
        have h2 : decide ((ks.length : Int) ≤ 20) = decide (ks.length ≤ 20) := by congr 1; exact propext ⟨fun h => by omega, fun h => by omega⟩
        rw [h2]; exact (Bool.and_true _).symm)
      clear hk'
      go_wp2_with fail
      go_ret
      exact ⟨ret_bool (by first | exact D.out | (rw [← D.out]; simp)), rfl⟩
end Go.Proofs.Ytamddfacmmjglaa
