/- Contracts of the decoder of one integer, the program's and the reference's. No condition but that the text is no longer than a Go text can be. -/
import Derived.Test.YtnmanfjhbppbdaaKit
import Derived.Test.YtnmanfjhbppbdaaVMath
namespace Go.Proofs.Ytnmanfjhbppbdaa
open Go.RowKit

theorem index_at (s : ByteArray) (k : Nat) (h : k < s.size) (w : World) : (Instr.index 9 (.string s) (.int .i64 (k : Int))).run Try.prog w = .ok (.int .u8 (bt s.data.toList k)) w := by
  rw [run_index_string w 9 s .i64 k Try.underlying9, dif_pos ⟨by omega, by omega⟩]
  congr 2
  unfold bt
  simp only [List.getD_eq_getElem?_getD, Int.toNat_natCast]
  rw [List.getElem?_eq_getElem (by simpa using h)]
  rfl
theorem size_list (s : ByteArray) : s.data.toList.length = s.size := by simp
theorem isEmpty_false (s : ByteArray) (h : 0 < s.size) : s.toList.isEmpty = false := by
  rw [ByteArray.toList_eq, List.isEmpty_eq_false_iff]
  intro e
  have := size_list s
  rw [e] at this
  simp at this
  omega
theorem isEmpty_true (s : ByteArray) (h : s.size = 0) : s.toList.isEmpty = true := by
  rw [ByteArray.toList_eq, List.isEmpty_iff]
  exact List.eq_nil_of_length_eq_zero (by rw [size_list]; exact h)

theorem ret_dec {a b a' b' : Int} {c c' : Bool} (h1 : a = a') (h2 : b = b') (h3 : c = c') : Ending.returned (.tuple #[.int .i64 a, .int .i64 b, .bool c]) = .returned (.tuple #[.int .i64 a', .int .i64 b', .bool c']) := by rw [h1, h2, h3]
theorem ret_dec2 {a b a' b' : Int} (h1 : a = a') (h2 : b = b') : Ending.returned (.tuple #[.int .i64 a, .int .i64 b]) = .returned (.tuple #[.int .i64 a', .int .i64 b']) := by rw [h1, h2]

set_option maxHeartbeats 400000 in
theorem idec_any (s : ByteArray) (w : World) (hm : s.size ≤ 9223372036854775807) :
    Calls Try.prog 23 #[.string s] w fun e w' => e = .returned (.tuple #[.int .i64 (dnum s.data.toList), .int .i64 (dsize s.data.toList), .bool (fine s.data.toList)]) ∧ w = w' := by
  by_cases h0 : s.size = 0
  · have e1 := isEmpty_true s h0
    have hf : fine s.data.toList = false := by
      have : s.data.toList = [] := List.eq_nil_of_length_eq_zero (by rw [size_list]; exact h0)
      rw [this]; rfl
    have F := Lib.hid (And.intro hf (dec_none _ hf))
    clear hf h0
    go_enter Try.func23, Try.ntmps23
    go_wp2
    go_ret3
    exact ⟨ret_dec F.out.2.2.symm (by rw [F.out.2.1]; rfl) F.out.1.symm, rfl⟩
  · have e1 := isEmpty_false s (by omega)
    have i0 : ∀ W, (Instr.index 9 (.string s) (.int .i64 0)).run Try.prog W = .ok (.int .u8 (bt s.data.toList 0)) W := fun W => index_at s 0 (by omega) W
    have b0 := bt_bd s.data.toList 0
    have hp : 0 < s.size := by omega
    obtain ⟨l, hl⟩ : ∃ l, l = s.data.toList := ⟨_, rfl⟩
    have hs : l.length = s.size := by rw [hl, size_list]
    by_cases h1 : 192 ≤ bt s.data.toList 0
    · have hf := dec_high _ h1
      have F := Lib.hid (And.intro hf (dec_none _ hf))
      clear hf h0 hs hl
      generalize bt s.data.toList 0 = c at i0 b0 h1
      go_enter Try.func23, Try.ntmps23
      go_wp2
      go_ret3
      exact ⟨ret_dec F.out.2.2.symm (by rw [F.out.2.1]; rfl) F.out.1.symm, rfl⟩
    · have hz : ∃ z : Nat, (if bt s.data.toList 0 < 64 then 1 else if bt s.data.toList 0 < 128 then 2 else 4) = z ∧ (z = 1 ∧ bt s.data.toList 0 / 64 = 0 ∨ z = 2 ∧ bt s.data.toList 0 / 64 = 1 ∨ z = 4 ∧ bt s.data.toList 0 / 64 = 2) := ⟨_, rfl, by (repeat' split) <;> omega⟩
      obtain ⟨z, hz, hc⟩ := hz
      by_cases h2 : z ≤ s.size
      · have F := Lib.hid (dec_some s.data.toList z (by rw [size_list]; exact hp) (by omega) hz (by rw [size_list]; exact h2))
        have P1 := Lib.hid (pre_one s.data.toList)
        rw [← hl] at F P1 i0 b0 h1 hc ⊢
        have IX : ∀ k : Nat, k < s.size → ∀ w : World, (Instr.index 9 (.string s) (.int .i64 (k : Int))).run Try.prog w = .ok (.int .u8 (bt l k)) w := fun k hk w => by rw [hl]; exact index_at s k hk w
        have IX' := Lib.hid IX
        clear hl hs h0 hz IX
        have hz4 : z ≤ 4 := by omega
        have hz1 : 1 ≤ z := by omega
        rcases hc with ⟨hz, hq⟩ | ⟨hz, hq⟩ | ⟨hz, hq⟩
        all_goals
          obtain ⟨c, hcc⟩ : ∃ c, c = bt l 0 := ⟨_, rfl⟩
          rw [← hcc] at i0 b0 h1 hq
          have C := Lib.hid hcc
          clear hcc
          go_enter Try.func23, Try.ntmps23
          go_wp2
          go_loop [6, 7] (fun n i => ∃ k : Nat, 1 ≤ k ∧ k ≤ z ∧ i = .int .i64 k ∧ n = .int .i64 (pre l k)) (fun _ i => 4 - (intOf i).toNat)
          case atStart => exact ⟨1, Nat.le_refl _, hz1, rfl, by rw [P1.out, ← C.out]⟩
          case round =>
            obtain ⟨k, hk1, hkz, rfl, rfl⟩ := hrel
            by_cases hlt : k < z
            · first
              | (exfalso; omega)
              | (have ix := IX'.out k (by omega)
                 have hb := bt_bd l k
                 have hp := pre_bd l k hk1 (by omega)
                 have o := or_256 (pre l k) (bt l k) (by omega) (by omega) hb.1 hb.2
                 have N := Lib.hid (pre_next l k hk1)
                 have g0 : 0 ≤ pre l k := by omega
                 have g1 : pre l k < 4194304 := by omega
                 clear hp
                 generalize pre l k = m at o N g0 g1
                 generalize bt l k = u at ix hb o N
                 go_wp2
                 go_round
                 case rel => exact ⟨k + 1, by omega, by omega, by go_num, by rw [N.out]⟩
                 case measure => simp [intOf]; omega)
            · obtain rfl : k = z := by omega
              subst hz
              go_wp2
              go_ret3
              exact ⟨ret_dec F.out.2.2.symm (by rw [F.out.2.1]; rfl) F.out.1.symm, rfl⟩
      · have hf := dec_short s.data.toList (by rw [size_list]; exact hp) (by rw [size_list, hz]; omega)
        have F := Lib.hid (And.intro hf (dec_none _ hf))
        clear hf h0 hs hl
        rcases hc with ⟨hz', hq⟩ | ⟨hz', hq⟩ | ⟨hz', hq⟩
        · exfalso; omega
        all_goals
          clear hz
          generalize bt s.data.toList 0 = c at i0 b0 h1 hq
          go_enter Try.func23, Try.ntmps23
          go_wp2
          go_ret3
          exact ⟨ret_dec F.out.2.2.symm (by rw [F.out.2.1]; rfl) F.out.1.symm, rfl⟩
set_option maxHeartbeats 400000 in
theorem sdec_any (s : ByteArray) (w : World) (hm : s.size ≤ 9223372036854775807) :
    Calls Try.prog 45 #[.string s] w fun e w' => e = .returned (.tuple #[.int .i64 (dnum s.data.toList), .int .i64 (dsize s.data.toList)]) ∧ Below w.heap.size w w' := by
  by_cases h0 : s.size = 0
  · have e1 := isEmpty_true s h0
    have hf : fine s.data.toList = false := by
      have : s.data.toList = [] := List.eq_nil_of_length_eq_zero (by rw [size_list]; exact h0)
      rw [this]; rfl
    have F := Lib.hid (And.intro hf (dec_none _ hf))
    clear hf h0
    go_enter Try.func45, Try.ntmps45
    go_wp2
    go_ret2
    exact ⟨ret_dec2 F.out.2.2.symm (by rw [F.out.2.1]; rfl), by first | exact Below.refl _ _ | exact (Below.refl _ _).alloc (Nat.le_refl _) _⟩
  · have e1 := isEmpty_false s (by omega)
    have i0 : ∀ W, (Instr.index 9 (.string s) (.int .i64 0)).run Try.prog W = .ok (.int .u8 (bt s.data.toList 0)) W := fun W => index_at s 0 (by omega) W
    have b0 := bt_bd s.data.toList 0
    have hp : 0 < s.size := by omega
    obtain ⟨l, hl⟩ : ∃ l, l = s.data.toList := ⟨_, rfl⟩
    have hs : l.length = s.size := by rw [hl, size_list]
    by_cases h1 : 192 ≤ bt s.data.toList 0
    · have hf := dec_high _ h1
      have F := Lib.hid (And.intro hf (dec_none _ hf))
      clear hf h0 hs hl
      generalize bt s.data.toList 0 = c at i0 b0 h1
      go_enter Try.func45, Try.ntmps45
      go_wp2
      go_ret2
      exact ⟨ret_dec2 F.out.2.2.symm (by rw [F.out.2.1]; rfl), by first | exact Below.refl _ _ | exact (Below.refl _ _).alloc (Nat.le_refl _) _⟩
    · have hz : ∃ z : Nat, (if bt s.data.toList 0 < 64 then 1 else if bt s.data.toList 0 < 128 then 2 else 4) = z ∧ (z = 1 ∧ bt s.data.toList 0 / 64 = 0 ∨ z = 2 ∧ bt s.data.toList 0 / 64 = 1 ∨ z = 4 ∧ bt s.data.toList 0 / 64 = 2) := ⟨_, rfl, by (repeat' split) <;> omega⟩
      obtain ⟨z, hz, hc⟩ := hz
      by_cases h2 : z ≤ s.size
      · have F := Lib.hid (dec_some s.data.toList z (by rw [size_list]; exact hp) (by omega) hz (by rw [size_list]; exact h2))
        have P1 := Lib.hid (pre_one s.data.toList)
        rw [← hl] at F P1 i0 b0 h1 hc ⊢
        have IX : ∀ k : Nat, k < s.size → ∀ w : World, (Instr.index 9 (.string s) (.int .i64 (k : Int))).run Try.prog w = .ok (.int .u8 (bt l k)) w := fun k hk w => by rw [hl]; exact index_at s k hk w
        have IX' := Lib.hid IX
        clear hl hs h0 hz IX
        have hz4 : z ≤ 4 := by omega
        have hz1 : 1 ≤ z := by omega
        rcases hc with ⟨hz, hq⟩ | ⟨hz, hq⟩ | ⟨hz, hq⟩
        all_goals
          obtain ⟨c, hcc⟩ : ∃ c, c = bt l 0 := ⟨_, rfl⟩
          rw [← hcc] at i0 b0 h1 hq
          have C := Lib.hid hcc
          clear hcc
          go_enter Try.func45, Try.ntmps45
          go_wp2
          go_loop [5, 6] (fun n i => ∃ k : Nat, 1 ≤ k ∧ k ≤ z ∧ i = .int .i64 k ∧ n = .int .i64 (pre l k)) (fun _ i => 4 - (intOf i).toNat)
          case atStart => exact ⟨1, Nat.le_refl _, hz1, rfl, by rw [P1.out, ← C.out]⟩
          case round =>
            obtain ⟨k, hk1, hkz, rfl, rfl⟩ := hrel
            by_cases hlt : k < z
            · first
              | (exfalso; omega)
              | (have ix := IX'.out k (by omega)
                 have hb := bt_bd l k
                 have hp := pre_bd l k hk1 (by omega)
                 have N := Lib.hid (pre_next l k hk1)
                 have g0 : 0 ≤ pre l k := by omega
                 have g1 : pre l k < 4194304 := by omega
                 clear hp
                 generalize pre l k = m at N g0 g1
                 generalize bt l k = u at ix hb N
                 go_wp2
                 go_round
                 case rel => exact ⟨k + 1, by omega, by omega, by go_num, by rw [N.out, Int.mul_comm]⟩
                 case measure => simp [intOf]; omega)
            · obtain rfl : k = z := by omega
              subst hz
              go_wp2
              go_ret2
              exact ⟨ret_dec2 F.out.2.2.symm (by rw [F.out.2.1]; rfl), by first | exact Below.refl _ _ | exact (Below.refl _ _).alloc (Nat.le_refl _) _⟩
      · have hf := dec_short s.data.toList (by rw [size_list]; exact hp) (by rw [size_list, hz]; omega)
        have F := Lib.hid (And.intro hf (dec_none _ hf))
        clear hf h0 hs hl
        rcases hc with ⟨hz', hq⟩ | ⟨hz', hq⟩ | ⟨hz', hq⟩
        · exfalso; omega
        all_goals
          clear hz
          generalize bt s.data.toList 0 = c at i0 b0 h1 hq
          go_enter Try.func45, Try.ntmps45
          go_wp2
          go_ret2
          exact ⟨ret_dec2 F.out.2.2.symm (by rw [F.out.2.1]; rfl), by first | exact Below.refl _ _ | exact (Below.refl _ _).alloc (Nat.le_refl _) _⟩
theorem svdec_any (s : ByteArray) (w : World) (hm : s.size ≤ 9223372036854775807) :
    Calls Try.prog 22 #[.string s] w fun e w' => e = .returned (.tuple #[.int .i64 (dnum s.data.toList), .int .i64 (dsize s.data.toList), .bool (fine s.data.toList)]) ∧ Below w.heap.size w w' := by
  have E := Lib.hid (dsize_pos s.data.toList)
  go_enter Try.func22, Try.ntmps22
  go_wp2_with (go_at_call 45; refine (sdec_any _ _ hm).mono ?_; rintro e w1 ⟨rfl, hb⟩)
  go_ret3
  exact ⟨ret_dec rfl rfl E.out, hb⟩
end Go.Proofs.Ytnmanfjhbppbdaa
