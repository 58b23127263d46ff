/- The contract of the reference's validity of frames, whole. No condition but that the ranges read as the list. -/
import Derived.Test.YtibnjbbiagjnjaaFSpec
namespace Go.Proofs.Ytibnjbbiagjnjaa
open Go.RowKit
set_option linter.unusedVariables false
theorem bcell2 {W w1 : World} (hb : Below W.heap.size W w1) : (∀ b o, b < W.heap.size → w1.cell? ⟨b, o, none⟩ = W.cell? ⟨b, o, none⟩) ∧ (∀ b o, b < W.heap.size → w1.frozen? ⟨b, o, none⟩ = W.frozen? ⟨b, o, none⟩) :=
  ⟨fun b o h => hb.cell (p := ⟨b, o, none⟩) h, fun b o h => hb.frozen (p := ⟨b, o, none⟩) h⟩
def Zeros (m a b c : Int) : Prop := (3 ≤ m ∨ c = 0) ∧ (2 ≤ m ∨ b = 0) ∧ (1 ≤ m ∨ a = 0)
theorem fkind_iff (k a b c : Int) (d : List UInt8) (rs : List Rg) : fkind ⟨k, a, b, c, d, rs⟩ = true ↔ Zeros (fmany k) a b c ∧ ffields k a b c d.length rs = true := by
  unfold fkind ffields Zeros fmany
  simp only
  obtain ⟨v, hv⟩ : ∃ v, (decide (0 < rs.length) && rvalid rs) = v := ⟨_, rfl⟩
  rw [hv]
  by_cases h0 : k = 0 ∨ k = 1 ∨ k = 9
  · rw [if_pos h0, flim_iff, if_neg (by omega), if_neg (by omega), if_pos h0, if_neg (by omega), if_neg (by omega), if_neg (by omega), if_neg (by omega), if_neg (by omega), if_neg (by omega), if_neg (by omega), inr_iff]
    simp only; omega
  · rw [if_neg h0, if_neg h0]
    by_cases h2 : k = 2
    · subst h2
      simp only [Bool.and_eq_true, flim_iff, inr_iff, if_true, if_neg (show ¬ (2 : Int) = 3 by decide), if_neg (show ¬ ((2 : Int) = 4 ∨ (2 : Int) = 7) by decide)]
      cases v
      · simp
      · simp only [and_true]; omega
    · rw [if_neg h2, if_neg h2]
      by_cases h3 : k = 3
      · rw [if_pos h3, if_pos h3, if_pos h3, flim_iff, Bool.and_eq_true, Bool.and_eq_true, Bool.and_eq_true, inr_iff, inr_iff, inr_iff, decide_eq_true_eq]
        simp only; omega
      · rw [if_neg h3, if_neg h3, if_neg h3]
        by_cases h4 : k = 4
        · rw [if_pos h4, if_pos (.inl h4), if_pos h4, flim_iff, Bool.and_eq_true, inr_iff, inr_iff]
          simp only; omega
        · rw [if_neg h4, if_neg h4]
          by_cases h5 : k = 5 ∨ k = 6
          · rw [if_pos h5, if_neg (by omega), if_pos h5, flim_iff, inr_iff]
            simp only; omega
          · rw [if_neg h5, if_neg h5]
            by_cases h7 : k = 7
            · rw [if_pos h7, if_pos (.inr h7), if_pos h7, flim_iff, Bool.and_eq_true, inr_iff, inr_iff]
              simp only; omega
            · rw [if_neg h7, if_neg h7, if_neg (show ¬ (k = 4 ∨ k = 7) by omega)]
              by_cases h8 : k = 8
              · rw [if_pos h8, if_pos h8, flim_iff, inr_iff]
                simp only; omega
              · rw [if_neg h8, if_neg h8]
                by_cases h10 : k = 10
                · rw [if_pos h10, if_pos h10, flim_iff, inr_iff]
                  simp only; omega
                · rw [if_neg h10, if_neg h10, inr_iff]
                  simp only [Bool.false_eq_true, false_iff]; omega
theorem fvalid_iff (k a b c : Int) (d : List UInt8) (rs : List Rg) : fvalid ⟨k, a, b, c, d, rs⟩ = true ↔
    Zeros (fmany k) a b c ∧ (k = 2 ∨ rs.length = 0) ∧ (k = 3 ∨ k = 9 ∨ d.length = 0) ∧ ffields k a b c d.length rs = true ∧ d.length ≤ 12 := by
  unfold fvalid
  rw [Bool.and_eq_true, fkind_iff]
  simp only [Bool.and_eq_true, Bool.or_eq_true, decide_eq_true_eq]
  constructor
  · rintro ⟨⟨⟨h1, h2⟩, h3⟩, h4, h5⟩; exact ⟨h4, h3.symm, by omega, h5, h1⟩
  · rintro ⟨h4, h3, h2, h5, h1⟩; exact ⟨⟨⟨h1, by omega⟩, h3.symm⟩, h4, h5⟩
section
variable (k a b c : Int) (s : ByteArray) (B : Nat) (rs : List Rg) (A : Option Addr) (cap : Nat) (w : World)
set_option maxHeartbeats 1600000 in
theorem sfv_zero (m : Int) (hk : (fmany k : Int) = m) (hz : ¬ Zeros m a b c) (hm : rs.length ≤ 2000000) :
    Calls Try.prog 23 #[.agg #[.int .i64 k, .int .i64 a, .int .i64 b, .int .i64 c, .string s, .slice A rs.length cap]] w (BoolPost w false) := by
  have HB := Lib.hid ((Below.refl w.heap.size w).alloc (Nat.le_refl _))
  have K := Lib.hid hk
  have hz' : (m < 3 ∧ ¬ c = 0) ∨ (m < 2 ∧ c = 0 ∧ ¬ b = 0) ∨ (m < 1 ∧ c = 0 ∧ b = 0 ∧ ¬ a = 0) := by unfold Zeros at hz; omega
  clear hk hz
  rcases hz' with ⟨h1, h2⟩ | ⟨h1, rfl, h2⟩ | ⟨h1, rfl, rfl, h2⟩
  all_goals
    go_enter Try.func23, Try.ntmps23
    go_wp2_with fail
    refine (numbers_is _ _ _ K.out).mono ?_
    rintro e w' ⟨rfl, rfl⟩
    go_wp2
    go_ret
    exact ⟨rfl, HB.out _⟩
set_option maxHeartbeats 1600000 in
theorem sfv_ranges (m : Int) (hk : (fmany k : Int) = m) (hz : Zeros m a b c) (h2 : ¬ k = 2) (h0 : 0 < rs.length) (hm : rs.length ≤ 2000000) :
    Calls Try.prog 23 #[.agg #[.int .i64 k, .int .i64 a, .int .i64 b, .int .i64 c, .string s, .slice A rs.length cap]] w (BoolPost w false) := by
  have HB := Lib.hid ((Below.refl w.heap.size w).alloc (Nat.le_refl _))
  have K := Lib.hid hk
  have hz' : 3 ≤ m ∨ (2 ≤ m ∧ m < 3 ∧ c = 0) ∨ (1 ≤ m ∧ m < 2 ∧ c = 0 ∧ b = 0) ∨ (m < 1 ∧ c = 0 ∧ b = 0 ∧ a = 0) := by unfold Zeros at hz; omega
  clear hk hz
  rcases hz' with h1 | ⟨h1, h3, rfl⟩ | ⟨h1, h3, rfl, rfl⟩ | ⟨h1, rfl, rfl, rfl⟩
  all_goals
    go_enter Try.func23, Try.ntmps23
    go_wp2_with fail
    refine (numbers_is _ _ _ K.out).mono ?_
    rintro e w' ⟨rfl, rfl⟩
    go_wp2
    go_ret
    exact ⟨rfl, HB.out _⟩
set_option maxHeartbeats 1600000 in
theorem sfv_data (m : Int) (hk : (fmany k : Int) = m) (hz : Zeros m a b c) (h2 : k = 2 ∨ rs.length = 0) (h3 : ¬ k = 3) (h9 : ¬ k = 9) (hs : 0 < s.size) (hm : rs.length ≤ 2000000) :
    Calls Try.prog 23 #[.agg #[.int .i64 k, .int .i64 a, .int .i64 b, .int .i64 c, .string s, .slice A rs.length cap]] w (BoolPost w false) := by
  have HB := Lib.hid ((Below.refl w.heap.size w).alloc (Nat.le_refl _))
  have K := Lib.hid hk
  obtain ⟨e0, e1⟩ := str_ne hs
  have hz' : 3 ≤ m ∨ (2 ≤ m ∧ m < 3 ∧ c = 0) ∨ (1 ≤ m ∧ m < 2 ∧ c = 0 ∧ b = 0) ∨ (m < 1 ∧ c = 0 ∧ b = 0 ∧ a = 0) := by unfold Zeros at hz; omega
  clear hk hz
  rcases h2 with rfl | h2
  · clear h3 h9
    obtain rfl : m = 1 := by rw [← K.out]; rfl
    obtain ⟨rfl, rfl⟩ : c = 0 ∧ b = 0 := by omega
    clear hz'
    all_goals
      go_enter Try.func23, Try.ntmps23
      go_wp2_with fail
      refine (numbers_is _ _ _ K.out).mono ?_
      rintro e w' ⟨rfl, rfl⟩
      go_wp2
      go_ret
      exact ⟨rfl, HB.out _⟩
  · obtain ⟨n, hn⟩ : ∃ n, rs.length = n := ⟨_, rfl⟩
    rw [hn] at h2 ⊢
    subst h2
    clear hn
    by_cases hk2 : k = 2
    · subst hk2
      obtain rfl : m = 1 := by rw [← K.out]; rfl
      obtain ⟨rfl, rfl⟩ : c = 0 ∧ b = 0 := by omega
      clear hz'
      all_goals
        go_enter Try.func23, Try.ntmps23
        go_wp2_with fail
        refine (numbers_is _ _ _ K.out).mono ?_
        rintro e w' ⟨rfl, rfl⟩
        go_wp2
        go_ret
        exact ⟨rfl, HB.out _⟩
    · have b2 : (k != 2) = true := by rw [bne_iff_ne]; exact hk2
      have b3 : (k != 3) = true := by rw [bne_iff_ne]; exact h3
      have b9 : (k != 9) = true := by rw [bne_iff_ne]; exact h9
      clear h3 h9 hk2
      rcases hz' with h1 | ⟨h1, h3, rfl⟩ | ⟨h1, h3, rfl, rfl⟩ | ⟨h1, rfl, rfl, rfl⟩
      all_goals
        go_enter Try.func23, Try.ntmps23
        go_wp2_with fail
        refine (numbers_is _ _ _ K.out).mono ?_
        rintro e w' ⟨rfl, rfl⟩
        go_wp2
        go_ret
        exact ⟨rfl, HB.out _⟩
set_option maxHeartbeats 3200000 in
theorem sfv_ok (m : Int) (hk : (fmany k : Int) = m) (hz : Zeros m a b c) (hI : RsIn w B A rs) (hBw : B ≤ w.heap.size) (hm : rs.length ≤ 2000000) (hs : s.size ≤ 1000000000000)
    (hh : (k = 2 ∧ s.size = 0) ∨ (k = 3 ∧ rs.length = 0) ∨ (k = 9 ∧ rs.length = 0) ∨ (¬ k = 2 ∧ ¬ k = 3 ∧ ¬ k = 9 ∧ rs.length = 0 ∧ s.size = 0)) (r : Bool) (hr : (ffields k a b c s.size rs && decide (s.size ≤ 12)) = r) :
    Calls Try.prog 23 #[.agg #[.int .i64 k, .int .i64 a, .int .i64 b, .int .i64 c, .string s, .slice A rs.length cap]] w (BoolPost w r) := by
  have B0 := Lib.hid ((Below.refl w.heap.size w).alloc (Nat.le_refl _) (.cells #[.int .i64 k, .int .i64 a, .int .i64 b, .int .i64 c, .string s, .slice A rs.length cap] 25))
  have H := Lib.hid (hI.below (B0.out.mono hBw))
  have K := Lib.hid hk
  obtain ⟨q, hq⟩ : ∃ q, ffields k a b c s.size rs = q := ⟨_, rfl⟩
  have FC := Lib.hid (fields_any k a b c s B rs A cap _ H.out (Nat.le_trans hBw B0.out.size) hm hs q hq)
  have R := Lib.hid (show (q && decide (s.size ≤ 12)) = r by rw [← hq]; exact hr)
  have R1 := Lib.hid (fun (h : s.size ≤ 12) => (show (q && true) = r by rw [← R.out, decide_eq_true h]))
  have R2 := Lib.hid (fun (h : ¬ s.size ≤ 12) => (show (q && false) = r by rw [← R.out, decide_eq_false h]))
  have hz' : 3 ≤ m ∨ (2 ≤ m ∧ m < 3 ∧ c = 0) ∨ (1 ≤ m ∧ m < 2 ∧ c = 0 ∧ b = 0) ∨ (m < 1 ∧ c = 0 ∧ b = 0 ∧ a = 0) := by unfold Zeros at hz; omega
  clear hk hz hq hr hI
  rcases hh with ⟨rfl, h0⟩ | ⟨rfl, h0⟩ | ⟨rfl, h0⟩ | ⟨g2, g3, g9, h0, h00⟩
  · obtain rfl := empty_of h0
    have R3 := Lib.hid (R1.out (by show (0 : Nat) ≤ 12; omega))
    clear h0 hs
    obtain rfl : m = 1 := by rw [← K.out]; rfl
    obtain ⟨rfl, rfl⟩ : c = 0 ∧ b = 0 := by omega
    clear hz'
    all_goals
      go_enter Try.func23, Try.ntmps23
      go_wp2_with fail
      refine (numbers_is _ _ _ K.out).mono ?_
      rintro e w' ⟨rfl, rfl⟩
      go_wp2_with fail
      refine FC.out.mono ?_
      rintro e w2 ⟨rfl, hB⟩
      obtain ⟨hc, hf⟩ := bcell2 hB
      have B2 := Lib.hid (drew2 B0.out hB)
      clear hB hf
      cases q
      all_goals
        go_wp2
        go_ret
        exact ⟨ret_bool (by first | exact R3.out | exact (decide_eq_true (by omega)).trans R3.out | exact (decide_eq_false (by omega)).trans R3.out), B2.out⟩
  all_goals
    obtain ⟨n, hn⟩ : ∃ n, rs.length = n := ⟨_, rfl⟩
    have B0' := Lib.hid (show Below w.heap.size w (w.alloc (.cells #[.int .i64 _, .int .i64 a, .int .i64 b, .int .i64 c, .string s, .slice A n cap] 25)) by rw [← hn]; exact B0.out)
    have HN := Lib.hid hn
    rw [hn] at h0 ⊢
    rw [hn] at FC
    clear B0 hn
    subst h0
  · by_cases h12 : s.size ≤ 12
    · have R3 := Lib.hid (R1.out h12)
      obtain rfl : m = 3 := by rw [← K.out]; rfl
      clear hz'
      all_goals
        go_enter Try.func23, Try.ntmps23
        go_wp2_with fail
        refine (numbers_is _ _ _ K.out).mono ?_
        rintro e w' ⟨rfl, rfl⟩
        go_wp2_with fail
        refine FC.out.mono ?_
        rintro e w2 ⟨rfl, hB⟩
        obtain ⟨hc, hf⟩ := bcell2 hB
        have B2 := Lib.hid (drew2 B0'.out hB)
        clear hB hf
        cases q
        all_goals
          go_wp2
          go_ret
          exact ⟨ret_bool (by first | exact R3.out | exact (decide_eq_true (by omega)).trans R3.out | exact (decide_eq_false (by omega)).trans R3.out), B2.out⟩
    · have R3 := Lib.hid (R2.out h12)
      obtain rfl : m = 3 := by rw [← K.out]; rfl
      clear hz'
      all_goals
        go_enter Try.func23, Try.ntmps23
        go_wp2_with fail
        refine (numbers_is _ _ _ K.out).mono ?_
        rintro e w' ⟨rfl, rfl⟩
        go_wp2_with fail
        refine FC.out.mono ?_
        rintro e w2 ⟨rfl, hB⟩
        obtain ⟨hc, hf⟩ := bcell2 hB
        have B2 := Lib.hid (drew2 B0'.out hB)
        clear hB hf
        cases q
        all_goals
          go_wp2
          go_ret
          exact ⟨ret_bool (by first | exact R3.out | exact (decide_eq_true (by omega)).trans R3.out | exact (decide_eq_false (by omega)).trans R3.out), B2.out⟩
  · by_cases h12 : s.size ≤ 12
    · have R3 := Lib.hid (R1.out h12)
      obtain rfl : m = 0 := by rw [← K.out]; rfl
      obtain ⟨rfl, rfl, rfl⟩ : c = 0 ∧ b = 0 ∧ a = 0 := by omega
      clear hz'
      all_goals
        go_enter Try.func23, Try.ntmps23
        go_wp2_with fail
        refine (numbers_is _ _ _ K.out).mono ?_
        rintro e w' ⟨rfl, rfl⟩
        go_wp2_with fail
        refine FC.out.mono ?_
        rintro e w2 ⟨rfl, hB⟩
        obtain ⟨hc, hf⟩ := bcell2 hB
        have B2 := Lib.hid (drew2 B0'.out hB)
        clear hB hf
        cases q
        all_goals
          go_wp2
          go_ret
          exact ⟨ret_bool (by first | exact R3.out | exact (decide_eq_true (by omega)).trans R3.out | exact (decide_eq_false (by omega)).trans R3.out), B2.out⟩
    · have R3 := Lib.hid (R2.out h12)
      obtain rfl : m = 0 := by rw [← K.out]; rfl
      obtain ⟨rfl, rfl, rfl⟩ : c = 0 ∧ b = 0 ∧ a = 0 := by omega
      clear hz'
      all_goals
        go_enter Try.func23, Try.ntmps23
        go_wp2_with fail
        refine (numbers_is _ _ _ K.out).mono ?_
        rintro e w' ⟨rfl, rfl⟩
        go_wp2_with fail
        refine FC.out.mono ?_
        rintro e w2 ⟨rfl, hB⟩
        obtain ⟨hc, hf⟩ := bcell2 hB
        have B2 := Lib.hid (drew2 B0'.out hB)
        clear hB hf
        cases q
        all_goals
          go_wp2
          go_ret
          exact ⟨ret_bool (by first | exact R3.out | exact (decide_eq_true (by omega)).trans R3.out | exact (decide_eq_false (by omega)).trans R3.out), B2.out⟩
  · have b2 : (k != 2) = true := by rw [bne_iff_ne]; exact g2
    have b3 : (k != 3) = true := by rw [bne_iff_ne]; exact g3
    have b9 : (k != 9) = true := by rw [bne_iff_ne]; exact g9
    clear g2 g3 g9
    obtain rfl := empty_of h00
    have R3 := Lib.hid (R1.out (by show (0 : Nat) ≤ 12; omega))
    clear h00 hs
    rcases hz' with h1 | ⟨h1, h3, rfl⟩ | ⟨h1, h3, rfl, rfl⟩ | ⟨h1, rfl, rfl, rfl⟩
    all_goals
      go_enter Try.func23, Try.ntmps23
      go_wp2_with fail
      refine (numbers_is _ _ _ K.out).mono ?_
      rintro e w' ⟨rfl, rfl⟩
      go_wp2_with fail
      refine FC.out.mono ?_
      rintro e w2 ⟨rfl, hB⟩
      obtain ⟨hc, hf⟩ := bcell2 hB
      have B2 := Lib.hid (drew2 B0'.out hB)
      clear hB hf
      cases q
      all_goals
        go_wp2
        go_ret
        exact ⟨ret_bool (by first | exact R3.out | exact (decide_eq_true (by omega)).trans R3.out | exact (decide_eq_false (by omega)).trans R3.out), B2.out⟩
end
/-- The reference's validity of a frame. -/
theorem sfv_any (k a b c : Int) (s : ByteArray) (B : Nat) (rs : List Rg) (A : Option Addr) (cap : Nat) (w : World) (hI : RsIn w B A rs) (hBw : B ≤ w.heap.size) (hm : rs.length ≤ 2000000) (hs : s.size ≤ 1000000000000) (r : Bool) (hr : fvalid ⟨k, a, b, c, s.data.toList, rs⟩ = r) :
    Calls Try.prog 23 #[.agg #[.int .i64 k, .int .i64 a, .int .i64 b, .int .i64 c, .string s, .slice A rs.length cap]] w (BoolPost w r) := by
  have hi := fvalid_iff k a b c s.data.toList rs
  rw [str_len] at hi
  have no : ¬ (Zeros (fmany k) a b c ∧ (k = 2 ∨ rs.length = 0) ∧ (k = 3 ∨ k = 9 ∨ s.size = 0)) → r = false := fun h => by
    rw [← hr, ← Bool.not_eq_true, hi]; exact fun h' => h ⟨h'.1, h'.2.1, h'.2.2.1⟩
  by_cases hz : Zeros (fmany k) a b c
  · by_cases h2 : k = 2 ∨ rs.length = 0
    · by_cases h3 : k = 3 ∨ k = 9 ∨ s.size = 0
      · refine sfv_ok k a b c s B rs A cap w _ rfl hz hI hBw hm hs (by omega) r ?_
        rw [← hr, Bool.eq_iff_iff, hi, Bool.and_eq_true, decide_eq_true_eq]
        exact ⟨fun h => ⟨hz, h2, h3, h.1, h.2⟩, fun h => ⟨h.2.2.2.1, h.2.2.2.2⟩⟩
      · rw [no (fun h => h3 h.2.2)]
        exact sfv_data k a b c s rs A cap w _ rfl hz h2 (by omega) (by omega) (by omega) hm
    · rw [no (fun h => h2 h.2.1)]
      exact sfv_ranges k a b c s rs A cap w _ rfl hz (by omega) (by omega) hm
  · rw [no (fun h => hz h.1)]
    exact sfv_zero k a b c s rs A cap w _ rfl hz hm
end Go.Proofs.Ytibnjbbiagjnjaa
