/- Contracts of packet numbers' functions, the program's and the reference's. No condition beyond those in each theorem. -/
import Derived.Test.YtnjonjbjpjodbaaIn
import Derived.Test.YtnjonjbjpjodbaaNMath
namespace Go.Proofs.Ytnjonjbjpjodbaa
open Go.RowKit
theorem i64_and_nat (a b : Nat) (ha : a < 9223372036854775808) (hb : b < 9223372036854775808) : bits .and .i64 (a : Int) (b : Int) = ((a &&& b : Nat) : Int) := by
  have hx : a &&& b < 2 ^ 63 := Nat.and_lt_two_pow _ (by omega)
  show IntKind.i64.wrap ((BitVec.ofInt 64 (a : Int) &&& BitVec.ofInt 64 (b : Int)).toNat : Int) = _
  rw [BitVec.toNat_and, ofInt_i64 a ha, ofInt_i64 b hb, IntKind.wrap_i64]
  omega
theorem and_15 (a : Int) (h0 : 0 ≤ a) (h : a ≤ 999) : bits .and .i64 a 15 = a % 16 := by
  obtain ⟨k, rfl⟩ : ∃ k : Nat, a = k := ⟨a.toNat, by omega⟩
  have h1 := i64_and_nat k 15 (by omega) (by omega)
  rw [show ((15 : Nat) : Int) = 15 from rfl] at h1
  rw [h1, Nat.and_two_pow_sub_one_eq_mod k 4]; rfl
theorem and_255 (a : Int) (h0 : 0 ≤ a) (h : a ≤ 999) : bits .and .i64 a 255 = a % 256 := by
  obtain ⟨k, rfl⟩ : ∃ k : Nat, a = k := ⟨a.toNat, by omega⟩
  have h1 := i64_and_nat k 255 (by omega) (by omega)
  rw [show ((255 : Nat) : Int) = 255 from rfl] at h1
  rw [h1, Nat.and_two_pow_sub_one_eq_mod k 8]; rfl
theorem and_4095 (a : Int) (h0 : 0 ≤ a) (h : a ≤ 999) : bits .and .i64 a 4095 = a % 4096 := by
  obtain ⟨k, rfl⟩ : ∃ k : Nat, a = k := ⟨a.toNat, by omega⟩
  have h1 := i64_and_nat k 4095 (by omega) (by omega)
  rw [show ((4095 : Nat) : Int) = 4095 from rfl] at h1
  rw [h1, Nat.and_two_pow_sub_one_eq_mod k 12]; rfl

theorem size_any (b : Int) (w : World) : Calls Try.prog 24 #[.int .i64 b] w fun e w' => e = .returned (.int .i64 (nsz b)) ∧ w = w' := by
  rcases nsz_cases b with ⟨rfl, e⟩ | ⟨rfl, e⟩ | ⟨rfl, e⟩ | ⟨h1, h2, h3, e⟩
  · go_enter Try.func24, Try.ntmps24
    go_wp2
    go_ret
    exact ⟨by rw [e]; rfl, rfl⟩
  · go_enter Try.func24, Try.ntmps24
    go_wp2
    go_ret
    exact ⟨by rw [e]; rfl, rfl⟩
  · go_enter Try.func24, Try.ntmps24
    go_wp2
    go_ret
    exact ⟨by rw [e]; rfl, rfl⟩
  · have b1 : (b == 4) = false := beq_eq_false_iff_ne.2 h1
    have b2 : (b == 8) = false := beq_eq_false_iff_ne.2 h2
    have b3 : (b == 12) = false := beq_eq_false_iff_ne.2 h3
    go_enter Try.func24, Try.ntmps24
    go_wp2
    go_ret
    exact ⟨by rw [e]; rfl, rfl⟩
theorem are_yes (b : Int) (w : World) (h : b = 4 ∨ b = 8 ∨ b = 12) : Calls Try.prog 26 #[.int .i64 b] w fun e w' => e = .returned (.bool true) ∧ w = w' := by
  rcases h with rfl | rfl | rfl
  all_goals
    go_enter Try.func26, Try.ntmps26
    go_wp2
    go_ret
    exact ⟨rfl, rfl⟩
theorem are_no (b : Int) (w : World) (h1 : b ≠ 4) (h2 : b ≠ 8) (h3 : b ≠ 12) : Calls Try.prog 26 #[.int .i64 b] w fun e w' => e = .returned (.bool false) ∧ w = w' := by
  have b1 : (b == 4) = false := beq_eq_false_iff_ne.2 h1
  have b2 : (b == 8) = false := beq_eq_false_iff_ne.2 h2
  have b3 : (b == 12) = false := beq_eq_false_iff_ne.2 h3
  go_enter Try.func26, Try.ntmps26
  go_wp2
  go_ret
  exact ⟨rfl, rfl⟩

theorem itrunc_any (f b : Int) (w : World) : Calls Try.prog 15 #[.int .i64 f, .int .i64 b] w fun e w' => e = .returned (.int .i64 (ntrunc f b)) ∧ w = w' := by
  by_cases hf : 0 ≤ f ∧ f ≤ 999
  · obtain ⟨h0, h1⟩ := hf
    have o1 := and_15 f h0 h1
    have o2 := and_255 f h0 h1
    have o3 := and_4095 f h0 h1
    rcases nsz_cases b with ⟨rfl, e⟩ | ⟨rfl, e⟩ | ⟨rfl, e⟩ | ⟨g1, g2, g3, e⟩
    · have E := Lib.hid (ntrunc_ok f 4 h0 h1 (by rw [e]; decide))
      rw [e] at E
      go_enter Try.func15, Try.ntmps15
      go_wp2_with (first | (go_at_call 25; refine (win_yes _ _ _ _ (by omega)).mono ?_; rintro e w' ⟨rfl, rfl⟩) | (go_at_call 26; refine (are_yes _ _ (by omega)).mono ?_; rintro e w' ⟨rfl, rfl⟩))
      go_ret
      exact ⟨by rw [E.out]; rfl, rfl⟩
    · have E := Lib.hid (ntrunc_ok f 8 h0 h1 (by rw [e]; decide))
      rw [e] at E
      go_enter Try.func15, Try.ntmps15
      go_wp2_with (first | (go_at_call 25; refine (win_yes _ _ _ _ (by omega)).mono ?_; rintro e w' ⟨rfl, rfl⟩) | (go_at_call 26; refine (are_yes _ _ (by omega)).mono ?_; rintro e w' ⟨rfl, rfl⟩))
      go_ret
      exact ⟨by rw [E.out]; rfl, rfl⟩
    · have E := Lib.hid (ntrunc_ok f 12 h0 h1 (by rw [e]; decide))
      rw [e] at E
      go_enter Try.func15, Try.ntmps15
      go_wp2_with (first | (go_at_call 25; refine (win_yes _ _ _ _ (by omega)).mono ?_; rintro e w' ⟨rfl, rfl⟩) | (go_at_call 26; refine (are_yes _ _ (by omega)).mono ?_; rintro e w' ⟨rfl, rfl⟩))
      go_ret
      exact ⟨by rw [E.out]; rfl, rfl⟩
    · have E := Lib.hid (ntrunc_no f b (by omega))
      clear e
      go_enter Try.func15, Try.ntmps15
      go_wp2_with (first | (go_at_call 25; refine (win_yes _ _ _ _ (by omega)).mono ?_; rintro e w' ⟨rfl, rfl⟩) | (go_at_call 26; refine (are_no _ _ g1 g2 g3).mono ?_; rintro e w' ⟨rfl, rfl⟩))
      go_ret
      exact ⟨by rw [E.out]; rfl, rfl⟩
  · have E := Lib.hid (ntrunc_no f b (by omega))
    go_enter Try.func15, Try.ntmps15
    go_wp2_with (go_at_call 25; refine (win_no _ _ _ _ (by omega)).mono ?_; rintro e w' ⟨rfl, rfl⟩)
    go_ret
    exact ⟨by rw [E.out]; rfl, rfl⟩
theorem strunc_any (f b : Int) (w : World) : Calls Try.prog 14 #[.int .i64 f, .int .i64 b] w fun e w' => e = .returned (.int .i64 (ntrunc f b)) ∧ w = w' := by
  by_cases hf : 0 ≤ f ∧ f ≤ 999
  · obtain ⟨h0, h1⟩ := hf
    by_cases hz : nsz b = 0
    · have E := Lib.hid (ntrunc_no f b (by omega))
      go_enter Try.func14, Try.ntmps14
      go_wp2_with (first | (go_at_call 23; refine (in_yes _ _ _ _ (by omega)).mono ?_; rintro e w' ⟨rfl, rfl⟩) | (go_at_call 24; refine (size_any _ _).mono ?_; rintro e w' ⟨rfl, rfl⟩))
      go_ret
      exact ⟨by rw [E.out]; rfl, rfl⟩
    · have E := Lib.hid (ntrunc_ok f b h0 h1 hz)
      have hz' : (nsz b == 0) = false := beq_eq_false_iff_ne.2 hz
      have hp : 0 < nsz b := by rcases nsz_cases b with ⟨_, e⟩ | ⟨_, e⟩ | ⟨_, e⟩ | ⟨_, _, _, e⟩ <;> omega
      go_enter Try.func14, Try.ntmps14
      go_wp2_with (first | (go_at_call 23; refine (in_yes _ _ _ _ (by omega)).mono ?_; rintro e w' ⟨rfl, rfl⟩) | (go_at_call 24; refine (size_any _ _).mono ?_; rintro e w' ⟨rfl, rfl⟩))
      go_ret
      exact ⟨by rw [E.out]; rfl, rfl⟩
  · have E := Lib.hid (ntrunc_no f b (by omega))
    go_enter Try.func14, Try.ntmps14
    go_wp2_with (go_at_call 23; refine (in_no _ _ _ _ (by omega)).mono ?_; rintro e w' ⟨rfl, rfl⟩)
    go_ret
    exact ⟨by rw [E.out]; rfl, rfl⟩

theorem ibits_any (f a : Int) (w : World) : Calls Try.prog 17 #[.int .i64 f, .int .i64 a] w fun e w' => e = .returned (.int .i64 (nbits f a)) ∧ w = w' := by
  rcases nbits_cases f a with ⟨e, h⟩ | ⟨h1, h2, h3, h⟩
  · have E := Lib.hid e
    clear e
    by_cases g1 : a < -1
    · go_enter Try.func17, Try.ntmps17
      go_wp2
      go_ret
      exact ⟨by rw [E.out]; rfl, rfl⟩
    · by_cases g2 : f ≤ a
      · go_enter Try.func17, Try.ntmps17
        go_wp2
        go_ret
        exact ⟨by rw [E.out]; rfl, rfl⟩
      · have g3 : 999 < f := by omega
        clear h
        go_enter Try.func17, Try.ntmps17
        go_wp2
        go_ret
        exact ⟨by rw [E.out]; rfl, rfl⟩
  · rcases h with ⟨e, g⟩ | ⟨e, g, g'⟩ | ⟨e, g⟩
    · have E := Lib.hid e
      clear e
      go_enter Try.func17, Try.ntmps17
      go_wp2
      refine wp_loop_rounds 1 ?_
      rw [rounds_succ]
      go_wp2
      go_ret
      exact ⟨by rw [E.out]; rfl, rfl⟩
    · have E := Lib.hid e
      clear e
      go_enter Try.func17, Try.ntmps17
      go_wp2
      refine wp_loop_rounds 2 ?_
      rw [rounds_succ]
      go_wp2
      rw [rounds_succ]
      go_wp2
      go_ret
      exact ⟨by rw [E.out]; rfl, rfl⟩
    · have E := Lib.hid e
      clear e
      go_enter Try.func17, Try.ntmps17
      go_wp2
      refine wp_loop_rounds 3 ?_
      rw [rounds_succ]
      go_wp2
      rw [rounds_succ]
      go_wp2
      rw [rounds_succ]
      go_wp2
      go_ret
      exact ⟨by rw [E.out]; rfl, rfl⟩
theorem nsz_4 : nsz 4 = 16 := rfl
theorem nsz_8 : nsz 8 = 256 := rfl
theorem nsz_12 : nsz 12 = 4096 := rfl
theorem size_of (b s : Int) (w : World) (h : nsz b = s) : Calls Try.prog 24 #[.int .i64 b] w fun e w' => e = .returned (.int .i64 s) ∧ w = w' := by rw [← h]; exact size_any b w
theorem sbits_any (f a : Int) (w : World) : Calls Try.prog 16 #[.int .i64 f, .int .i64 a] w fun e w' => e = .returned (.int .i64 (nbits f a)) ∧ w = w' := by
  rcases nbits_cases f a with ⟨e, h⟩ | ⟨h1, h2, h3, h⟩
  · have E := Lib.hid e
    clear e
    by_cases g1 : 0 ≤ f ∧ f ≤ 999
    · obtain ⟨g1, g2⟩ := g1
      have g3 : a < -1 ∨ f - 1 < a := by omega
      clear h
      go_enter Try.func16, Try.ntmps16
      go_wp2_with fail
      refine (in_yes _ _ _ _ ⟨g1, g2⟩).mono ?_
      rintro e w' ⟨rfl, rfl⟩
      go_wp2_with fail
      refine (in_no _ _ _ _ g3).mono ?_
      rintro e w' ⟨rfl, rfl⟩
      go_wp2
      go_ret
      exact ⟨by rw [E.out]; rfl, rfl⟩
    · have g3 : f < 0 ∨ 999 < f := by omega
      clear h g1
      go_enter Try.func16, Try.ntmps16
      go_wp2_with fail
      refine (in_no _ _ _ _ g3).mono ?_
      rintro e w' ⟨rfl, rfl⟩
      go_wp2
      go_ret
      exact ⟨by rw [E.out]; rfl, rfl⟩
  · rcases h with ⟨e, g⟩ | ⟨e, g, g'⟩ | ⟨e, g⟩
    · have E := Lib.hid e
      clear e
      go_enter Try.func16, Try.ntmps16
      go_wp2_with (go_at_call 23; refine (in_yes _ _ _ _ (by omega)).mono ?_; rintro e w' ⟨rfl, rfl⟩)
      refine wp_loop_rounds 1 ?_
      rw [rounds_succ]
      go_wp2_with (go_at_call 24; refine (size_of _ 16 _ rfl).mono ?_; rintro e w' ⟨rfl, rfl⟩)
      go_ret
      exact ⟨by rw [E.out]; rfl, rfl⟩
    · have E := Lib.hid e
      clear e
      go_enter Try.func16, Try.ntmps16
      go_wp2_with (go_at_call 23; refine (in_yes _ _ _ _ (by omega)).mono ?_; rintro e w' ⟨rfl, rfl⟩)
      refine wp_loop_rounds 2 ?_
      rw [rounds_succ]
      go_wp2_with (go_at_call 24; refine (size_of _ 16 _ rfl).mono ?_; rintro e w' ⟨rfl, rfl⟩)
      rw [rounds_succ]
      go_wp2_with (go_at_call 24; refine (size_of _ 256 _ rfl).mono ?_; rintro e w' ⟨rfl, rfl⟩)
      go_ret
      exact ⟨by rw [E.out]; rfl, rfl⟩
    · have E := Lib.hid e
      clear e
      go_enter Try.func16, Try.ntmps16
      go_wp2_with (go_at_call 23; refine (in_yes _ _ _ _ (by omega)).mono ?_; rintro e w' ⟨rfl, rfl⟩)
      refine wp_loop_rounds 3 ?_
      rw [rounds_succ]
      go_wp2_with (go_at_call 24; refine (size_of _ 16 _ rfl).mono ?_; rintro e w' ⟨rfl, rfl⟩)
      rw [rounds_succ]
      go_wp2_with (go_at_call 24; refine (size_of _ 256 _ rfl).mono ?_; rintro e w' ⟨rfl, rfl⟩)
      rw [rounds_succ]
      go_wp2_with (go_at_call 24; refine (size_of _ 4096 _ rfl).mono ?_; rintro e w' ⟨rfl, rfl⟩)
      go_ret
      exact ⟨by rw [E.out]; rfl, rfl⟩
end Go.Proofs.Ytnjonjbjpjodbaa
