/- Contracts of the reference's encoder of integers. No condition beyond those in each theorem. -/
import Derived.Test.YtibnjbbiagjnjaaVWalks
namespace Go.Proofs.Ytibnjbbiagjnjaa
open Go.RowKit
theorem bytes_ext {a b : ByteArray} (h : a.data.toList = b.data.toList) : a = b := ByteArray.ext (Array.toList_inj.1 h)
theorem ret_bytes {a b : ByteArray} (h : a.data.toList = b.data.toList) : Ending.returned (.string a) = .returned (.string b) := by rw [bytes_ext h]
theorem sbytes_1 (n : Int) (w : World) (h0 : 0 ≤ n) (h : n < 64) :
    Calls Try.prog 62 #[.int .i64 n, .int .i64 1] w fun e w' => e = .returned (.string ⟨(vb1 n).toArray⟩) ∧ Below w.heap.size w w' := by
  have k := conv1
  have E := Lib.hid (b8_of n h0 (by omega))
  go_enter Try.func62, Try.ntmps62
  go_wp2
  refine wp_loop_rounds 1 ?_
  rw [rounds_succ]
  go_wp2
  refine wp_loop_rounds 1 ?_
  rw [rounds_succ]
  go_wp2
  go_ret
  refine ⟨ret_bytes ?_, by repeat (first | exact Below.refl _ _ | refine Below.alloc ?_ (by simp; try omega) _)⟩
  show _ = vb1 n
  simp [vb1, E.out]
theorem sbytes_2 (n : Int) (w : World) (h0 : 64 ≤ n) (h : n < 16384) :
    Calls Try.prog 62 #[.int .i64 n, .int .i64 2] w fun e w' => e = .returned (.string ⟨(vb2 n).toArray⟩) ∧ Below w.heap.size w w' := by
  have k := conv1
  have E1 := Lib.hid (b8_mod n)
  have E2 := Lib.hid ((b8_of (64 + n / 256) (by omega) (by omega)).trans (b8_eq _ (n / 256 + 64) (by omega)))
  go_enter Try.func62, Try.ntmps62
  go_wp2
  refine wp_loop_rounds 2 ?_
  rw [rounds_succ]
  go_wp2
  rw [rounds_succ]
  go_wp2
  refine wp_loop_rounds 2 ?_
  rw [rounds_succ]
  go_wp2
  rw [rounds_succ]
  go_wp2
  go_ret
  refine ⟨ret_bytes ?_, by repeat (first | exact Below.refl _ _ | refine Below.alloc ?_ (by simp; try omega) _)⟩
  show _ = vb2 n
  simp [vb2, E1.out, E2.out]
set_option maxHeartbeats 400000 in
theorem sbytes_4 (n : Int) (w : World) (h0 : 16384 ≤ n) (h : n ≤ 1073741823) :
    Calls Try.prog 62 #[.int .i64 n, .int .i64 4] w fun e w' => e = .returned (.string ⟨(vb4 n).toArray⟩) ∧ Below w.heap.size w w' := by
  have k := conv1
  have E1 := Lib.hid (b8_mod n)
  have E2 := Lib.hid (b8_mod (n / 256))
  have E3 := Lib.hid (b8_mod (n / 256 / 256))
  have D3 : n / 256 / 256 = n / 65536 := by omega
  have D4 : n / 256 / 256 / 256 = n / 16777216 := by omega
  have D := Lib.hid (And.intro D3 D4)
  clear D3 D4
  have E4 := Lib.hid ((b8_of (128 + n / 256 / 256 / 256) (by omega) (by omega)).trans (b8_eq _ (n / 16777216 + 128) (by omega)))
  go_enter Try.func62, Try.ntmps62
  go_wp2
  refine wp_loop_rounds 3 ?_
  rw [rounds_succ]
  go_wp2
  rw [rounds_succ]
  go_wp2
  rw [rounds_succ]
  go_wp2
  refine wp_loop_rounds 4 ?_
  rw [rounds_succ]
  go_wp2
  rw [rounds_succ]
  go_wp2
  rw [rounds_succ]
  go_wp2
  rw [rounds_succ]
  go_wp2
  go_ret
  refine ⟨ret_bytes ?_, by repeat (first | exact Below.refl _ _ | refine Below.alloc ?_ (by simp; try omega) _)⟩
  show _ = vb4 n
  simp [vb4, E1.out, E2.out, E3.out, E4.out, ← D.out.1]
theorem sbytes_any (n : Int) (w : World) (h0 : 0 ≤ n) (h : n ≤ 1073741823) :
    Calls Try.prog 62 #[.int .i64 n, .int .i64 (vlen n)] w fun e w' => e = .returned (.string ⟨(venc n).toArray⟩) ∧ Below w.heap.size w w' := by
  by_cases h1 : n < 64
  · have e : vlen n = 1 := by unfold vlen; (repeat' split) <;> omega
    rw [e, venc_1 n h0 h1]; exact sbytes_1 n w h0 h1
  · by_cases h2 : n < 16384
    · have e : vlen n = 2 := by unfold vlen; (repeat' split) <;> omega
      rw [e, venc_2 n (by omega) h2]; exact sbytes_2 n w (by omega) h2
    · have e : vlen n = 4 := by unfold vlen; (repeat' split) <;> omega
      rw [e, venc_4 n (by omega) h]; exact sbytes_4 n w (by omega) h
end Go.Proofs.Ytibnjbbiagjnjaa
