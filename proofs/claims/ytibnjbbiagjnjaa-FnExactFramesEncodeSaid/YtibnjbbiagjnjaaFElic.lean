/- Contracts of whether a frame must be acknowledged, the program's and the reference's. No condition but that the ranges read as the list. -/
import Derived.Test.YtibnjbbiagjnjaaFSpec2
namespace Go.Proofs.Ytibnjbbiagjnjaa
open Go.RowKit
set_option linter.unusedVariables false
theorem ifv_of (k a b c : Int) (s : ByteArray) (B : Nat) (rs : List Rg) (A : Option Addr) (cap : Nat) (w : World) (hI : RsIn w B A rs) (hBw : B ≤ w.heap.size) (hm : rs.length ≤ 2000000) (hs : s.size ≤ 1000000000000) (r : Bool) (hr : fvalid ⟨k, a, b, c, s.data.toList, rs⟩ = r) :
    Calls Try.prog 21 #[.agg #[.int .i64 k, .int .i64 a, .int .i64 b, .int .i64 c, .string s, .slice A rs.length cap]] w (BoolPost w r) := ifv_any k a b c s B rs A cap w hI hBw hm r hr
theorem sfv_of (k a b c : Int) (s : ByteArray) (B : Nat) (rs : List Rg) (A : Option Addr) (cap : Nat) (w : World) (hI : RsIn w B A rs) (hBw : B ≤ w.heap.size) (hm : rs.length ≤ 2000000) (hs : s.size ≤ 1000000000000) (r : Bool) (hr : fvalid ⟨k, a, b, c, s.data.toList, rs⟩ = r) :
    Calls Try.prog 23 #[.agg #[.int .i64 k, .int .i64 a, .int .i64 b, .int .i64 c, .string s, .slice A rs.length cap]] w (BoolPost w r) := sfv_any k a b c s B rs A cap w hI hBw hm hs r hr
def felic (f : Fr) : Bool := fvalid f && (decide (¬ f.k = 0) && (decide (¬ f.k = 2) && decide (¬ f.k = 10)))
set_option maxHeartbeats 1600000 in
theorem ife_any (k a b c : Int) (s : ByteArray) (B : Nat) (rs : List Rg) (A : Option Addr) (cap : Nat) (w : World) (hI : RsIn w B A rs) (hBw : B ≤ w.heap.size) (hm : rs.length ≤ 2000000) (hs : s.size ≤ 1000000000000) (r : Bool) (hr : felic ⟨k, a, b, c, s.data.toList, rs⟩ = r) :
    Calls Try.prog 27 #[.agg #[.int .i64 k, .int .i64 a, .int .i64 b, .int .i64 c, .string s, .slice A rs.length cap]] w (BoolPost w r) := by
  have B0 := Lib.hid ((Below.refl w.heap.size w).alloc (Nat.le_refl _) (.cells #[.int .i64 k, .int .i64 a, .int .i64 b, .int .i64 c, .string s, .slice A rs.length cap] 25))
  have H := Lib.hid (hI.below (B0.out.mono hBw))
  obtain ⟨q, hq⟩ : ∃ q, fvalid ⟨k, a, b, c, s.data.toList, rs⟩ = q := ⟨_, rfl⟩
  have FC := Lib.hid (ifv_of k a b c s B rs A cap _ H.out (Nat.le_trans hBw B0.out.size) hm hs q hq)
  have R := Lib.hid (show (q && (decide (¬ k = 0) && (decide (¬ k = 2) && decide (¬ k = 10)))) = r by rw [← hq]; exact hr)
  clear hI hq hr
  go_enter Try.func27, Try.ntmps27
  go_wp2_with fail
  refine FC.out.mono ?_
  rintro e w2 ⟨rfl, hB⟩
  obtain ⟨hc, hf⟩ := bcell2 hB
  have B2 := Lib.hid (drew2 B0.out hB)
  clear hB hf
  cases q with
  | false =>
    go_wp2
    go_ret
    exact ⟨ret_bool R.out, B2.out⟩
  | true =>
    by_cases k0 : k = 0
    · have R2 := Lib.hid (show false = r by rw [← R.out, k0]; rfl)
      have t0 : (k != 0) = false := by rw [k0]; rfl
      clear k0
      go_wp2
      go_ret
      exact ⟨ret_bool R2.out, B2.out⟩
    · have t0 : (k != 0) = true := by rw [bne_iff_ne]; exact k0
      by_cases k2 : k = 2
      · have R2 := Lib.hid (show false = r by rw [← R.out, k2]; rfl)
        have t2 : (k != 2) = false := by rw [k2]; rfl
        clear k0 k2
        go_wp2
        go_ret
        exact ⟨ret_bool R2.out, B2.out⟩
      · have t2 : (k != 2) = true := by rw [bne_iff_ne]; exact k2
        by_cases k10 : k = 10
        · have R2 := Lib.hid (show false = r by rw [← R.out, k10]; rfl)
          have t10 : (k != 10) = false := by rw [k10]; rfl
          clear k0 k2 k10
          go_wp2
          go_ret
          exact ⟨ret_bool R2.out, B2.out⟩
        · have t10 : (k != 10) = true := by rw [bne_iff_ne]; exact k10
          have R2 := Lib.hid (show true = r by rw [← R.out, decide_eq_true k0, decide_eq_true k2, decide_eq_true k10]; rfl)
          clear k0 k2 k10
          go_wp2
          go_ret
          exact ⟨ret_bool R2.out, B2.out⟩
set_option maxHeartbeats 1600000 in
theorem sfe_any (k a b c : Int) (s : ByteArray) (B : Nat) (rs : List Rg) (A : Option Addr) (cap : Nat) (w : World) (hI : RsIn w B A rs) (hBw : B ≤ w.heap.size) (hm : rs.length ≤ 2000000) (hs : s.size ≤ 1000000000000) (r : Bool) (hr : felic ⟨k, a, b, c, s.data.toList, rs⟩ = r) :
    Calls Try.prog 26 #[.agg #[.int .i64 k, .int .i64 a, .int .i64 b, .int .i64 c, .string s, .slice A rs.length cap]] w (BoolPost w r) := by
  have B0 := Lib.hid ((Below.refl w.heap.size w).alloc (Nat.le_refl _) (.cells #[.int .i64 k, .int .i64 a, .int .i64 b, .int .i64 c, .string s, .slice A rs.length cap] 25))
  have H := Lib.hid (hI.below (B0.out.mono hBw))
  obtain ⟨q, hq⟩ : ∃ q, fvalid ⟨k, a, b, c, s.data.toList, rs⟩ = q := ⟨_, rfl⟩
  have FC := Lib.hid (sfv_of k a b c s B rs A cap _ H.out (Nat.le_trans hBw B0.out.size) hm hs q hq)
  have R := Lib.hid (show (q && (decide (¬ k = 0) && (decide (¬ k = 2) && decide (¬ k = 10)))) = r by rw [← hq]; exact hr)
  clear hI hq hr
  go_enter Try.func26, Try.ntmps26
  go_wp2_with fail
  refine FC.out.mono ?_
  rintro e w2 ⟨rfl, hB⟩
  obtain ⟨hc, hf⟩ := bcell2 hB
  have B2 := Lib.hid (drew2 B0.out hB)
  clear hB hf
  cases q with
  | false =>
    go_wp2
    go_ret
    exact ⟨ret_bool R.out, B2.out⟩
  | true =>
    by_cases k0 : k = 0
    · have R2 := Lib.hid (show false = r by rw [← R.out, k0]; rfl)
      have t0 : (k != 0) = false := by rw [k0]; rfl
      clear k0
      go_wp2
      go_ret
      exact ⟨ret_bool R2.out, B2.out⟩
    · have t0 : (k != 0) = true := by rw [bne_iff_ne]; exact k0
      by_cases k2 : k = 2
      · have R2 := Lib.hid (show false = r by rw [← R.out, k2]; rfl)
        have t2 : (k != 2) = false := by rw [k2]; rfl
        clear k0 k2
        go_wp2
        go_ret
        exact ⟨ret_bool R2.out, B2.out⟩
      · have t2 : (k != 2) = true := by rw [bne_iff_ne]; exact k2
        by_cases k10 : k = 10
        · have R2 := Lib.hid (show false = r by rw [← R.out, k10]; rfl)
          have t10 : (k != 10) = false := by rw [k10]; rfl
          clear k0 k2 k10
          go_wp2
          go_ret
          exact ⟨ret_bool R2.out, B2.out⟩
        · have t10 : (k != 10) = true := by rw [bne_iff_ne]; exact k10
          have R2 := Lib.hid (show true = r by rw [← R.out, decide_eq_true k0, decide_eq_true k2, decide_eq_true k10]; rfl)
          clear k0 k2 k10
          go_wp2
          go_ret
          exact ⟨ret_bool R2.out, B2.out⟩
end Go.Proofs.Ytibnjbbiagjnjaa
