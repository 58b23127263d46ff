/- Contracts of the reference's validity of frames. No condition but that the ranges read as the list. -/
import Derived.Test.YtibnjbbiagjnjaaFValid
namespace Go.Proofs.Ytibnjbbiagjnjaa
open Go.RowKit
set_option linter.unusedVariables false
/-- What the reference asks of the fields that a kind has. -/
def ffields (k a b c : Int) (n : Nat) (rs : List Rg) : Bool :=
  if k = 2 then inr a 3 && (decide (0 < rs.length) && rvalid rs)
  else if k = 3 then inr a 2 && inr b 30 && inr c 1 && decide (b + n ≤ 30)
  else if k = 4 then inr a 2 && inr b 30
  else if k = 5 ∨ k = 6 then inr a 9999
  else if k = 7 then inr a 15 && inr b 9999
  else if k = 8 then inr a 15
  else if k = 10 then inr a 99
  else inr k 10
theorem in_is (x hi : Int) (w : World) (r : Bool) (h : inr x hi = r) : Calls Try.prog 38 #[.int .i64 x, .int .i64 0, .int .i64 hi] w fun e w' => e = .returned (.bool r) ∧ w = w' :=
  (in_any x 0 hi w).mono fun _ _ ⟨he, hw⟩ => ⟨by rw [he]; exact ret_bool h, hw⟩
theorem numbers_any (k : Int) (w : World) : Calls Try.prog 44 #[.int .i64 k] w fun e w' => e = .returned (.int .i64 (fmany k : Int)) ∧ w = w' := by
  by_cases ho : k < 0 ∨ 10 < k
  · have e : fmany k = 1 := by unfold fmany; rw [if_neg (by omega), if_neg (by omega), if_neg (by omega)]
    rw [e]
    rcases ho with ho | ho
    all_goals
      go_enter Try.func44, Try.ntmps44
      go_wp2
      go_ret
      exact ⟨rfl, rfl⟩
  · have hk : k = 0 ∨ k = 1 ∨ k = 2 ∨ k = 3 ∨ k = 4 ∨ k = 5 ∨ k = 6 ∨ k = 7 ∨ k = 8 ∨ k = 9 ∨ k = 10 := by omega
    clear ho
    rcases hk with rfl | rfl | rfl | rfl | rfl | rfl | rfl | rfl | rfl | rfl | rfl
    all_goals
      go_enter Try.func44, Try.ntmps44
      go_wp2
      go_ret
      exact ⟨rfl, rfl⟩
theorem numbers_is (k : Int) (m : Int) (w : World) (h : (fmany k : Int) = m) : Calls Try.prog 44 #[.int .i64 k] w fun e w' => e = .returned (.int .i64 m) ∧ w = w' := by
  rw [← h]; exact numbers_any k w
section
variable (a b c : Int) (s : ByteArray) (A : Option Addr) (cap : Nat) (w : World) (r : Bool)
set_option maxHeartbeats 800000 in
theorem fields_1 (k hi : Int) (hk : (k = 5 ∨ k = 6) ∧ hi = 9999 ∨ k = 8 ∧ hi = 15 ∨ k = 10 ∧ hi = 99) (n : Nat) (h : inr a hi = r) :
    Calls Try.prog 45 #[.agg #[.int .i64 k, .int .i64 a, .int .i64 b, .int .i64 c, .string s, .slice A n cap]] w (BoolPost w r) := by
  have HB := Lib.hid ((Below.refl w.heap.size w).alloc (Nat.le_refl _))
  have R := Lib.hid h
  clear h
  rcases hk with ⟨rfl | rfl, rfl⟩ | ⟨rfl, rfl⟩ | ⟨rfl, rfl⟩
  all_goals
    go_enter Try.func45, Try.ntmps45
    go_wp2_with fail
    refine (in_is _ _ _ r R.out).mono ?_
    rintro e w' ⟨rfl, rfl⟩
    go_wp2
    go_ret
    exact ⟨rfl, HB.out _⟩
set_option maxHeartbeats 800000 in
theorem fields_2 (k hi hj : Int) (hk : k = 4 ∧ hi = 2 ∧ hj = 30 ∨ k = 7 ∧ hi = 15 ∧ hj = 9999) (n : Nat) (h : (inr a hi && inr b hj) = r) :
    Calls Try.prog 45 #[.agg #[.int .i64 k, .int .i64 a, .int .i64 b, .int .i64 c, .string s, .slice A n cap]] w (BoolPost w r) := by
  have HB := Lib.hid ((Below.refl w.heap.size w).alloc (Nat.le_refl _))
  obtain ⟨p, hp⟩ : ∃ p, inr a hi = p := ⟨_, rfl⟩
  have P1 := Lib.hid hp
  have R := Lib.hid (show (p && inr b hj) = r by rw [← hp]; exact h)
  clear h hp
  rcases hk with ⟨rfl, rfl, rfl⟩ | ⟨rfl, rfl, rfl⟩
  all_goals
    go_enter Try.func45, Try.ntmps45
    go_wp2_with fail
    refine (in_is _ _ _ p P1.out).mono ?_
    rintro e w' ⟨rfl, rfl⟩
    cases p with
    | false =>
      go_wp2
      go_ret
      exact ⟨ret_bool R.out, HB.out _⟩
    | true =>
      go_wp2_with fail
      refine (in_is _ _ _ r R.out).mono ?_
      rintro e w' ⟨rfl, rfl⟩
      go_wp2
      go_ret
      exact ⟨rfl, HB.out _⟩
set_option maxHeartbeats 1600000 in
theorem fields_3 (n : Nat) (hs : s.size ≤ 1000000000000) (h : (inr a 2 && inr b 30 && inr c 1 && decide (b + s.size ≤ 30)) = r) :
    Calls Try.prog 45 #[.agg #[.int .i64 3, .int .i64 a, .int .i64 b, .int .i64 c, .string s, .slice A n cap]] w (BoolPost w r) := by
  have HB := Lib.hid ((Below.refl w.heap.size w).alloc (Nat.le_refl _))
  obtain ⟨p, hp⟩ : ∃ p, inr a 2 = p := ⟨_, rfl⟩
  obtain ⟨q, hq⟩ : ∃ q, inr b 30 = q := ⟨_, rfl⟩
  obtain ⟨t, ht⟩ : ∃ t, inr c 1 = t := ⟨_, rfl⟩
  have P1 := Lib.hid hp
  have P2 := Lib.hid hq
  have P3 := Lib.hid ht
  have R := Lib.hid (show (p && q && t && decide (b + s.size ≤ 30)) = r by rw [← hp, ← hq, ← ht]; exact h)
  clear h hp hq ht
  go_enter Try.func45, Try.ntmps45
  go_wp2_with fail
  refine (in_is _ _ _ p P1.out).mono ?_
  rintro e w' ⟨rfl, rfl⟩
  cases p with
  | false =>
    go_wp2
    go_ret
    exact ⟨ret_bool R.out, HB.out _⟩
  | true =>
    go_wp2_with fail
    refine (in_is _ _ _ q P2.out).mono ?_
    rintro e w' ⟨rfl, rfl⟩
    cases q with
    | false =>
      go_wp2
      go_ret
      exact ⟨ret_bool R.out, HB.out _⟩
    | true =>
      have hb := (inr_iff b 30).1 P2.out
      obtain ⟨hb0, hb1⟩ := hb
      go_wp2_with fail
      refine (in_is _ _ _ t P3.out).mono ?_
      rintro e w' ⟨rfl, rfl⟩
      cases t with
      | false =>
        go_wp2
        go_ret
        exact ⟨ret_bool R.out, HB.out _⟩
      | true =>
        by_cases h30 : b + s.size ≤ 30
        · have R2 := Lib.hid (show true = r by rw [← R.out, decide_eq_true h30]; rfl)
          go_wp2
          go_ret
          exact ⟨ret_bool R2.out, HB.out _⟩
        · have R2 := Lib.hid (show false = r by rw [← R.out, decide_eq_false h30]; rfl)
          go_wp2
          go_ret
          exact ⟨ret_bool (by first | exact R2.out | exact (decide_eq_false (show ¬ (b + s.size ≤ 30) by omega)).trans R2.out), HB.out _⟩
set_option maxHeartbeats 1600000 in
theorem fields_ack (B : Nat) (rs : List Rg) (hI : RsIn w B A rs) (hBw : B ≤ w.heap.size) (hm : rs.length ≤ 2000000) (h : (inr a 3 && (decide (0 < rs.length) && rvalid rs)) = r) :
    Calls Try.prog 45 #[.agg #[.int .i64 2, .int .i64 a, .int .i64 b, .int .i64 c, .string s, .slice A rs.length cap]] w (BoolPost w r) := by
  have HB := Lib.hid ((Below.refl w.heap.size w).alloc (Nat.le_refl _))
  obtain ⟨p, hp⟩ : ∃ p, inr a 3 = p := ⟨_, rfl⟩
  obtain ⟨v, hv⟩ : ∃ v, rvalid rs = v := ⟨_, rfl⟩
  have P1 := Lib.hid hp
  have V := Lib.hid hv
  have H := Lib.hid hI
  have R := Lib.hid (show (p && (decide (0 < rs.length) && v)) = r by rw [← hp, ← hv]; exact h)
  clear h hp hv hI
  by_cases h0 : 0 < rs.length
  · have R1 := Lib.hid (show (p && v) = r by rw [← R.out, decide_eq_true h0]; rfl)
    go_enter Try.func45, Try.ntmps45
    go_wp2_with fail
    refine (in_is _ _ _ p P1.out).mono ?_
    rintro e w' ⟨rfl, rfl⟩
    cases p with
    | false =>
      go_wp2
      go_ret
      exact ⟨ret_bool R1.out, HB.out _⟩
    | true =>
      go_wp2_with fail
      have B0 := Lib.hid (HB.out (.cells #[.int .i64 2, .int .i64 a, .int .i64 b, .int .i64 c, .string s, .slice A rs.length cap] 25))
      have hv := svalid_any B A rs cap _ (H.out.below (B0.out.mono hBw)) (Nat.le_trans hBw B0.out.size) (Nat.le_trans hm (by decide))
      rw [V.out] at hv
      with_reducible refine hv.mono ?_
      clear hv
      rintro e w2 ⟨rfl, hB⟩
      have B2 := Lib.hid (drew2 B0.out hB)
      clear hB
      go_wp2
      go_ret
      exact ⟨ret_bool R1.out, B2.out⟩
  · have R1 := Lib.hid (show false = r by rw [← R.out, decide_eq_false h0]; cases p <;> rfl)
    obtain ⟨n, hn⟩ : ∃ n, rs.length = n := ⟨_, rfl⟩
    rw [hn] at h0 ⊢
    obtain rfl : n = 0 := by omega
    clear hn h0
    go_enter Try.func45, Try.ntmps45
    go_wp2_with fail
    refine (in_is _ _ _ p P1.out).mono ?_
    rintro e w' ⟨rfl, rfl⟩
    cases p
    all_goals
      go_wp2
      go_ret
      exact ⟨ret_bool R1.out, HB.out _⟩
set_option maxHeartbeats 800000 in
theorem fields_0 (k : Int) (hk : ¬ (2 ≤ k ∧ k ≤ 8)) (h9 : ¬ k = 10) (n : Nat) (h : inr k 10 = r) :
    Calls Try.prog 45 #[.agg #[.int .i64 k, .int .i64 a, .int .i64 b, .int .i64 c, .string s, .slice A n cap]] w (BoolPost w r) := by
  have HB := Lib.hid ((Below.refl w.heap.size w).alloc (Nat.le_refl _))
  have R := Lib.hid h
  clear h
  by_cases h2 : k < 2
  · go_enter Try.func45, Try.ntmps45
    go_wp2_with fail
    refine (in_is _ _ _ r R.out).mono ?_
    rintro e w' ⟨rfl, rfl⟩
    go_wp2
    go_ret
    exact ⟨rfl, HB.out _⟩
  · have h3 : 8 < k := by omega
    clear hk
    go_enter Try.func45, Try.ntmps45
    go_wp2_with fail
    refine (in_is _ _ _ r R.out).mono ?_
    rintro e w' ⟨rfl, rfl⟩
    go_wp2
    go_ret
    exact ⟨rfl, HB.out _⟩
end
theorem fields_any (k a b c : Int) (s : ByteArray) (B : Nat) (rs : List Rg) (A : Option Addr) (cap : Nat) (w : World) (hI : RsIn w B A rs) (hBw : B ≤ w.heap.size) (hm : rs.length ≤ 2000000) (hs : s.size ≤ 1000000000000) (r : Bool) (h : ffields k a b c s.size rs = r) :
    Calls Try.prog 45 #[.agg #[.int .i64 k, .int .i64 a, .int .i64 b, .int .i64 c, .string s, .slice A rs.length cap]] w (BoolPost w r) := by
  unfold ffields at h
  split at h
  · rename_i hk; subst hk; exact fields_ack a b c s A cap w r B rs hI hBw hm h
  · split at h
    · rename_i hk; subst hk; exact fields_3 a b c s A cap w r rs.length hs h
    · split at h
      · rename_i hk; exact fields_2 a b c s A cap w r k 2 30 (.inl ⟨hk, rfl, rfl⟩) rs.length h
      · split at h
        · rename_i hk; exact fields_1 a b c s A cap w r k 9999 (.inl ⟨hk, rfl⟩) rs.length h
        · split at h
          · rename_i hk; exact fields_2 a b c s A cap w r k 15 9999 (.inr ⟨hk, rfl, rfl⟩) rs.length h
          · split at h
            · rename_i hk; exact fields_1 a b c s A cap w r k 15 (.inr (.inl ⟨hk, rfl⟩)) rs.length h
            · split at h
              · rename_i hk; exact fields_1 a b c s A cap w r k 99 (.inr (.inr ⟨hk, rfl⟩)) rs.length h
              · exact fields_0 a b c s A cap w r k (by omega) (by omega) rs.length h
end Go.Proofs.Ytibnjbbiagjnjaa
