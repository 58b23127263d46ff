/- Contracts of 'is it minimal', the program's and the reference's. No condition but that the text is no longer than a Go text can be. -/
import Derived.Test.YtnmanfjhbppbdaaVDec
import Derived.Test.YtnmanfjhbppbdaaVEnc
namespace Go.Proofs.Ytnmanfjhbppbdaa
open Go.RowKit
theorem minimal_yes (s : ByteArray) (h : fine s.data.toList = true) : (venc (dnum s.data.toList) == s.toList) = minimal s.data.toList := by
  unfold minimal; rw [h, ByteArray.toList_eq]; rfl
theorem minimal_no (s : ByteArray) (h : ¬ fine s.data.toList = true) : false = minimal s.data.toList := by
  unfold minimal; cases e : fine s.data.toList
  · rfl
  · exact absurd e h
theorem fine_pos (l : List UInt8) (h : 0 < dsize l) : fine l = true := by rw [← dsize_pos]; simpa using h
theorem fine_not (l : List UInt8) (h : ¬ 0 < dsize l) : ¬ fine l = true := by rw [← dsize_pos]; simpa using h
theorem imin_any (s : ByteArray) (w : World) (hm : s.size ≤ 9223372036854775807) :
    Calls Try.prog 25 #[.string s] w fun e w' => e = .returned (.bool (minimal s.data.toList)) ∧ Below w.heap.size w w' := by
  have hd := dnum_le s.data.toList
  go_enter Try.func25, Try.ntmps25
  go_wp2_with (first | (go_at_call 23; refine (idec_any _ _ hm).mono ?_; rintro e w2 ⟨rfl, rfl⟩) | (go_at_call 27; refine (iencode_any _ _).mono ?_; rintro e w1 ⟨rfl, hb⟩))
  · go_ret
    exact ⟨ret_bool (minimal_yes s (by assumption)), hb⟩
  · go_ret
    exact ⟨ret_bool (minimal_no s (by assumption)), Below.refl _ _⟩
theorem smin_any (s : ByteArray) (w : World) (hm : s.size ≤ 9223372036854775807) :
    Calls Try.prog 33 #[.string s] w fun e w' => e = .returned (.bool (minimal s.data.toList)) ∧ Below w.heap.size w w' := by
  have hd := dnum_le s.data.toList
  go_enter Try.func33, Try.ntmps33
  go_wp2_with (first | (go_at_call 45; refine (sdec_any _ _ hm).mono ?_; rintro e w1 ⟨rfl, hb⟩) | (go_at_call 44; refine (slen_any _ _ hd.1 hd.2).mono ?_; rintro e w2 ⟨rfl, rfl⟩) | (go_at_call 46; refine (sbytes_any _ _ hd.1 hd.2).mono ?_; rintro e w3 ⟨rfl, hb3⟩))
  · go_ret
    exact ⟨ret_bool (minimal_yes s (fine_pos _ (by assumption))), hb.trans (hb3.mono hb.size)⟩
  · go_ret
    exact ⟨ret_bool (minimal_no s (fine_not _ (by assumption))), hb⟩
end Go.Proofs.Ytnmanfjhbppbdaa
