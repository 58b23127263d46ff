/- Contracts of the encoder of integers and of what it calls, the program's and the reference's. No condition beyond those in each theorem. -/
import Derived.Test.YtibnjbbiagjnjaaIn
import Derived.Test.YtibnjbbiagjnjaaVMath
import Derived.Outline
namespace Go.Proofs.Ytibnjbbiagjnjaa
open Go.RowKit

theorem ilen_any (n : Int) (w : World) : Calls Try.prog 53 #[.int .i64 n] w fun e w' => e = .returned (.int .i64 (vlen n)) ∧ w = w' := by
  unfold vlen
  by_cases h1 : n < 0
  · go_enter Try.func53, Try.ntmps53
    go_wp2
    go_ret
    exact ⟨rfl, rfl⟩
  · by_cases h2 : 1073741823 < n
    · go_enter Try.func53, Try.ntmps53
      go_wp2
      go_ret
      exact ⟨rfl, rfl⟩
    · by_cases h3 : n < 64
      · go_enter Try.func53, Try.ntmps53
        go_wp2
        go_ret
        exact ⟨rfl, rfl⟩
      · by_cases h4 : n < 16384
        all_goals
          go_enter Try.func53, Try.ntmps53
          go_wp2
          go_ret
          exact ⟨rfl, rfl⟩

theorem slen_any (n : Int) (w : World) (h0 : 0 ≤ n) (h1 : n ≤ 1073741823) : Calls Try.prog 63 #[.int .i64 n] w fun e w' => e = .returned (.int .i64 (vlen n)) ∧ w = w' := by
  have a1 : ¬ n < 0 := by omega
  have a2 : ¬ 1073741823 < n := by omega
  unfold vlen
  rw [if_neg a1, if_neg a2]
  by_cases h3 : n < 64
  · go_enter Try.func63, Try.ntmps63
    go_wp2
    go_ret
    exact ⟨rfl, rfl⟩
  · by_cases h4 : n < 16384
    all_goals
      go_enter Try.func63, Try.ntmps63
      go_wp2
      go_ret
      exact ⟨rfl, rfl⟩

/-! ### the program's encoder -/
theorem ret_text {l l' : List UInt8} (h : l = l') : Ending.returned (.string ⟨l.toArray⟩) = .returned (.string ⟨l'.toArray⟩) := by rw [h]
theorem venc_1 (n : Int) (h0 : 0 ≤ n) (h : n < 64) : venc n = vb1 n := by unfold venc; (repeat' split) <;> first | rfl | omega
theorem venc_2 (n : Int) (h0 : 64 ≤ n) (h : n < 16384) : venc n = vb2 n := by unfold venc; (repeat' split) <;> first | rfl | omega
theorem venc_4 (n : Int) (h0 : 16384 ≤ n) (h : n ≤ 1073741823) : venc n = vb4 n := by unfold venc; (repeat' split) <;> first | rfl | omega
theorem venc_0 (n : Int) (h : n < 0 ∨ 1073741823 < n) : venc n = [] := by unfold venc; (repeat' split) <;> first | rfl | omega
theorem iencode_any (n : Int) (w : World) : Calls Try.prog 34 #[.int .i64 n] w fun e w' => e = .returned (.string ⟨(venc n).toArray⟩) ∧ Below w.heap.size w w' := by
  by_cases h0 : n < 0 ∨ 1073741823 < n
  · have e : vlen n = 0 := by unfold vlen; (repeat' split) <;> omega
    have E := Lib.hid (venc_0 n h0)
    clear h0
    go_enter Try.func34, Try.ntmps34
    go_wp2_with (go_at_call 53; refine (ilen_any _ _).mono ?_; rintro e w' ⟨rfl, rfl⟩)
    go_ret
    exact ⟨by rw [E.out]; rfl, Below.refl _ _⟩
  · by_cases h1 : n < 64
    · have e : vlen n = 1 := by unfold vlen; (repeat' split) <;> omega
      have E := Lib.hid (venc_1 n (by omega) h1)
      have k := conv1
      have g : 0 ≤ n := by omega
      clear h0
      go_enter Try.func34, Try.ntmps34
      go_wp2_with (go_at_call 53; refine (ilen_any _ _).mono ?_; rintro e w' ⟨rfl, rfl⟩)
      go_ret
      refine ⟨?_, (Below.refl _ _).alloc (Nat.le_refl _) _⟩
      rw [E.out]
      exact ret_text (by simp only [vb1, b8_of n g (by omega : n < 256)])
    · by_cases h2 : n < 16384
      · have e : vlen n = 2 := by unfold vlen; (repeat' split) <;> omega
        have E := Lib.hid (venc_2 n (by omega) h2)
        have k := conv2
        have g : 64 ≤ n := by omega
        have o := or_64 (n / 256) (by omega) (by omega)
        clear h0 h1
        go_enter Try.func34, Try.ntmps34
        go_wp2_with (go_at_call 53; refine (ilen_any _ _).mono ?_; rintro e w' ⟨rfl, rfl⟩)
        go_ret
        refine ⟨?_, (Below.refl _ _).alloc (Nat.le_refl _) _⟩
        rw [E.out]
        exact ret_text (by simp only [vb2, b8_mod, b8_of (n / 256 + 64) (by omega) (by omega)])
      · have e : vlen n = 4 := by unfold vlen; (repeat' split) <;> omega
        have E := Lib.hid (venc_4 n (by omega) (by omega))
        have k := conv4
        have g : 16384 ≤ n := by omega
        have g' : n ≤ 1073741823 := by omega
        have o := or_128 (n / 16777216) (by omega) (by omega)
        clear h0 h1 h2
        go_enter Try.func34, Try.ntmps34
        go_wp2_with (go_at_call 53; refine (ilen_any _ _).mono ?_; rintro e w' ⟨rfl, rfl⟩)
        go_ret
        refine ⟨?_, (Below.refl _ _).alloc (Nat.le_refl _) _⟩
        rw [E.out]
        exact ret_text (by simp only [vb4, b8_mod, b8_of (n / 16777216 + 128) (by omega) (by omega)])
end Go.Proofs.Ytibnjbbiagjnjaa
