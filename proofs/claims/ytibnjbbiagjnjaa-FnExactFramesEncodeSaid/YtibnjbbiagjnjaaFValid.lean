/- Contracts of the program's validity of frames. No condition but that the ranges read as the list. -/
import Derived.Test.YtibnjbbiagjnjaaFWalk
namespace Go.Proofs.Ytibnjbbiagjnjaa
open Go.RowKit
set_option linter.unusedVariables false
theorem fr_new (w : World) (k a b c : Int) (v4 v5 : Value) : (w.alloc (.cells #[.int .i64 k, .int .i64 a, .int .i64 b, .int .i64 c, v4, v5] 25)).cell? ⟨w.heap.size, 1, none⟩ = some (.int .i64 a) ∧
    (w.alloc (.cells #[.int .i64 k, .int .i64 a, .int .i64 b, .int .i64 c, v4, v5] 25)).cell? ⟨w.heap.size, 2, none⟩ = some (.int .i64 b) ∧
    (w.alloc (.cells #[.int .i64 k, .int .i64 a, .int .i64 b, .int .i64 c, v4, v5] 25)).cell? ⟨w.heap.size, 3, none⟩ = some (.int .i64 c) := by
  refine ⟨?_, ?_, ?_⟩ <;> (rw [cell_of_row _ _ _ _ _ _ (heap_alloc_new w _)]; rfl)
theorem empty_of {s : ByteArray} (h : s.size = 0) : s = ⟨#[]⟩ := by
  obtain ⟨⟨l⟩⟩ := s
  cases l with
  | nil => rfl
  | cons x l => simp [ByteArray.size] at h
theorem str_ne {s : ByteArray} (h : 0 < s.size) : s.toList ≠ [] ∧ s.toList.isEmpty = false := by
  have hl : s.toList.length = s.size := by rw [ByteArray.toList_eq]; simp
  have : s.toList ≠ [] := fun e => by rw [e] at hl; simp at hl; omega
  exact ⟨this, by cases hh : s.toList with | nil => exact absurd hh this | cons x l => rfl⟩
theorem str_len (s : ByteArray) : s.data.toList.length = s.size := by simp
theorem limit_call (w : World) (k a b c x y z : Int) (v4 v5 : Value) (r : Bool) (hr : (inr a x && inr b y && inr c z) = r) :
    Calls Try.prog 41 #[.int .i64 x, .int .i64 y, .int .i64 z, .pointer (some ⟨w.heap.size, 0, none⟩)] (w.alloc (.cells #[.int .i64 k, .int .i64 a, .int .i64 b, .int .i64 c, v4, v5] 25)) fun e w' => e = .returned (.bool r) ∧ w.alloc (.cells #[.int .i64 k, .int .i64 a, .int .i64 b, .int .i64 c, v4, v5] 25) = w' :=
  limit_any w.heap.size k a b c x y z default v4 _ r (fr_new w k a b c v4 v5).1 (fr_new w k a b c v4 v5).2.1 (fr_new w k a b c v4 v5).2.2 hr
set_option maxHeartbeats 800000 in
theorem ifv_e0 (a b c : Int) (A : Option Addr) (cap : Nat) (w : World) (r : Bool) (hr : fvalid ⟨0, a, b, c, [], []⟩ = r) :
    Calls Try.prog 21 #[.agg #[.int .i64 0, .int .i64 a, .int .i64 b, .int .i64 c, .string ⟨#[]⟩, .slice A 0 cap]] w (BoolPost w r) := by
  have HB := Lib.hid ((Below.refl w.heap.size w).alloc (Nat.le_refl _))
  have R := Lib.hid (show (inr a 0 && inr b 0 && inr c 0) = r by rw [← hr]; simp [fvalid, fkind, flim])
  clear hr
  go_enter Try.func21, Try.ntmps21
  go_wp2_with fail
  refine (limit_call w 0 a b c 0 0 0 _ _ r R.out).mono ?_
  rintro e w' ⟨rfl, rfl⟩
  go_wp2
  go_ret
  exact ⟨rfl, HB.out _⟩
set_option maxHeartbeats 800000 in
theorem ifv_e1 (a b c : Int) (A : Option Addr) (cap : Nat) (w : World) (r : Bool) (hr : fvalid ⟨1, a, b, c, [], []⟩ = r) :
    Calls Try.prog 21 #[.agg #[.int .i64 1, .int .i64 a, .int .i64 b, .int .i64 c, .string ⟨#[]⟩, .slice A 0 cap]] w (BoolPost w r) := by
  have HB := Lib.hid ((Below.refl w.heap.size w).alloc (Nat.le_refl _))
  have R := Lib.hid (show (inr a 0 && inr b 0 && inr c 0) = r by rw [← hr]; simp [fvalid, fkind, flim])
  clear hr
  go_enter Try.func21, Try.ntmps21
  go_wp2_with fail
  refine (limit_call w 1 a b c 0 0 0 _ _ r R.out).mono ?_
  rintro e w' ⟨rfl, rfl⟩
  go_wp2
  go_ret
  exact ⟨rfl, HB.out _⟩
set_option maxHeartbeats 800000 in
theorem ifv_e4 (a b c : Int) (A : Option Addr) (cap : Nat) (w : World) (r : Bool) (hr : fvalid ⟨4, a, b, c, [], []⟩ = r) :
    Calls Try.prog 21 #[.agg #[.int .i64 4, .int .i64 a, .int .i64 b, .int .i64 c, .string ⟨#[]⟩, .slice A 0 cap]] w (BoolPost w r) := by
  have HB := Lib.hid ((Below.refl w.heap.size w).alloc (Nat.le_refl _))
  have R := Lib.hid (show (inr a 2 && inr b 30 && inr c 0) = r by rw [← hr]; simp [fvalid, fkind, flim])
  clear hr
  go_enter Try.func21, Try.ntmps21
  go_wp2_with fail
  refine (limit_call w 4 a b c 2 30 0 _ _ r R.out).mono ?_
  rintro e w' ⟨rfl, rfl⟩
  go_wp2
  go_ret
  exact ⟨rfl, HB.out _⟩
set_option maxHeartbeats 800000 in
theorem ifv_e5 (a b c : Int) (A : Option Addr) (cap : Nat) (w : World) (r : Bool) (hr : fvalid ⟨5, a, b, c, [], []⟩ = r) :
    Calls Try.prog 21 #[.agg #[.int .i64 5, .int .i64 a, .int .i64 b, .int .i64 c, .string ⟨#[]⟩, .slice A 0 cap]] w (BoolPost w r) := by
  have HB := Lib.hid ((Below.refl w.heap.size w).alloc (Nat.le_refl _))
  have R := Lib.hid (show (inr a 9999 && inr b 0 && inr c 0) = r by rw [← hr]; simp [fvalid, fkind, flim])
  clear hr
  go_enter Try.func21, Try.ntmps21
  go_wp2_with fail
  refine (limit_call w 5 a b c 9999 0 0 _ _ r R.out).mono ?_
  rintro e w' ⟨rfl, rfl⟩
  go_wp2
  go_ret
  exact ⟨rfl, HB.out _⟩
set_option maxHeartbeats 800000 in
theorem ifv_e6 (a b c : Int) (A : Option Addr) (cap : Nat) (w : World) (r : Bool) (hr : fvalid ⟨6, a, b, c, [], []⟩ = r) :
    Calls Try.prog 21 #[.agg #[.int .i64 6, .int .i64 a, .int .i64 b, .int .i64 c, .string ⟨#[]⟩, .slice A 0 cap]] w (BoolPost w r) := by
  have HB := Lib.hid ((Below.refl w.heap.size w).alloc (Nat.le_refl _))
  have R := Lib.hid (show (inr a 9999 && inr b 0 && inr c 0) = r by rw [← hr]; simp [fvalid, fkind, flim])
  clear hr
  go_enter Try.func21, Try.ntmps21
  go_wp2_with fail
  refine (limit_call w 6 a b c 9999 0 0 _ _ r R.out).mono ?_
  rintro e w' ⟨rfl, rfl⟩
  go_wp2
  go_ret
  exact ⟨rfl, HB.out _⟩
set_option maxHeartbeats 800000 in
theorem ifv_e7 (a b c : Int) (A : Option Addr) (cap : Nat) (w : World) (r : Bool) (hr : fvalid ⟨7, a, b, c, [], []⟩ = r) :
    Calls Try.prog 21 #[.agg #[.int .i64 7, .int .i64 a, .int .i64 b, .int .i64 c, .string ⟨#[]⟩, .slice A 0 cap]] w (BoolPost w r) := by
  have HB := Lib.hid ((Below.refl w.heap.size w).alloc (Nat.le_refl _))
  have R := Lib.hid (show (inr a 15 && inr b 9999 && inr c 0) = r by rw [← hr]; simp [fvalid, fkind, flim])
  clear hr
  go_enter Try.func21, Try.ntmps21
  go_wp2_with fail
  refine (limit_call w 7 a b c 15 9999 0 _ _ r R.out).mono ?_
  rintro e w' ⟨rfl, rfl⟩
  go_wp2
  go_ret
  exact ⟨rfl, HB.out _⟩
set_option maxHeartbeats 800000 in
theorem ifv_e8 (a b c : Int) (A : Option Addr) (cap : Nat) (w : World) (r : Bool) (hr : fvalid ⟨8, a, b, c, [], []⟩ = r) :
    Calls Try.prog 21 #[.agg #[.int .i64 8, .int .i64 a, .int .i64 b, .int .i64 c, .string ⟨#[]⟩, .slice A 0 cap]] w (BoolPost w r) := by
  have HB := Lib.hid ((Below.refl w.heap.size w).alloc (Nat.le_refl _))
  have R := Lib.hid (show (inr a 15 && inr b 0 && inr c 0) = r by rw [← hr]; simp [fvalid, fkind, flim])
  clear hr
  go_enter Try.func21, Try.ntmps21
  go_wp2_with fail
  refine (limit_call w 8 a b c 15 0 0 _ _ r R.out).mono ?_
  rintro e w' ⟨rfl, rfl⟩
  go_wp2
  go_ret
  exact ⟨rfl, HB.out _⟩
set_option maxHeartbeats 800000 in
theorem ifv_e9 (a b c : Int) (A : Option Addr) (cap : Nat) (w : World) (r : Bool) (hr : fvalid ⟨9, a, b, c, [], []⟩ = r) :
    Calls Try.prog 21 #[.agg #[.int .i64 9, .int .i64 a, .int .i64 b, .int .i64 c, .string ⟨#[]⟩, .slice A 0 cap]] w (BoolPost w r) := by
  have HB := Lib.hid ((Below.refl w.heap.size w).alloc (Nat.le_refl _))
  have R := Lib.hid (show (inr a 0 && inr b 0 && inr c 0) = r by rw [← hr]; simp [fvalid, fkind, flim])
  clear hr
  go_enter Try.func21, Try.ntmps21
  go_wp2_with fail
  refine (limit_call w 9 a b c 0 0 0 _ _ r R.out).mono ?_
  rintro e w' ⟨rfl, rfl⟩
  go_wp2
  go_ret
  exact ⟨rfl, HB.out _⟩
set_option maxHeartbeats 800000 in
theorem ifv_e10 (a b c : Int) (A : Option Addr) (cap : Nat) (w : World) (r : Bool) (hr : fvalid ⟨10, a, b, c, [], []⟩ = r) :
    Calls Try.prog 21 #[.agg #[.int .i64 10, .int .i64 a, .int .i64 b, .int .i64 c, .string ⟨#[]⟩, .slice A 0 cap]] w (BoolPost w r) := by
  have HB := Lib.hid ((Below.refl w.heap.size w).alloc (Nat.le_refl _))
  have R := Lib.hid (show (inr a 99 && inr b 0 && inr c 0) = r by rw [← hr]; simp [fvalid, fkind, flim])
  clear hr
  go_enter Try.func21, Try.ntmps21
  go_wp2_with fail
  refine (limit_call w 10 a b c 99 0 0 _ _ r R.out).mono ?_
  rintro e w' ⟨rfl, rfl⟩
  go_wp2
  go_ret
  exact ⟨rfl, HB.out _⟩
set_option maxHeartbeats 800000 in
theorem ifv_e3 (a b c : Int) (A : Option Addr) (cap : Nat) (w : World) (r : Bool) (hr : fvalid ⟨3, a, b, c, [], []⟩ = r) :
    Calls Try.prog 21 #[.agg #[.int .i64 3, .int .i64 a, .int .i64 b, .int .i64 c, .string ⟨#[]⟩, .slice A 0 cap]] w (BoolPost w r) := by
  have HB := Lib.hid ((Below.refl w.heap.size w).alloc (Nat.le_refl _))
  have R := Lib.hid (show (inr a 2 && inr b 30 && inr c 1) = r by rw [← hr]; simp [fvalid, fkind, flim])
  clear hr
  go_enter Try.func21, Try.ntmps21
  go_wp2_with fail
  refine (limit_call w 3 a b c 2 30 1 _ _ r R.out).mono ?_
  rintro e w' ⟨rfl, rfl⟩
  go_wp2
  go_ret
  exact ⟨rfl, HB.out _⟩
set_option maxHeartbeats 800000 in
theorem ifv_e2 (a b c : Int) (A : Option Addr) (cap : Nat) (w : World) (r : Bool) (hr : fvalid ⟨2, a, b, c, [], []⟩ = r) :
    Calls Try.prog 21 #[.agg #[.int .i64 2, .int .i64 a, .int .i64 b, .int .i64 c, .string ⟨#[]⟩, .slice A 0 cap]] w (BoolPost w r) := by
  have HB := Lib.hid ((Below.refl w.heap.size w).alloc (Nat.le_refl _))
  have R := Lib.hid (show false = r by rw [← hr]; simp [fvalid, fkind, flim])
  obtain ⟨q, hq⟩ : ∃ q, (inr a 3 && inr b 0 && inr c 0) = q := ⟨_, rfl⟩
  have Q := Lib.hid hq
  clear hr hq
  go_enter Try.func21, Try.ntmps21
  go_wp2_with fail
  refine (limit_call w 2 a b c 3 0 0 _ _ q Q.out).mono ?_
  rintro e w' ⟨rfl, rfl⟩
  cases q
  all_goals
    go_wp2
    go_ret
    exact ⟨ret_bool R.out, HB.out _⟩
set_option maxHeartbeats 800000 in
theorem ifv_r2 (a b c : Int) (B : Nat) (rs : List Rg) (A : Option Addr) (cap : Nat) (w : World) (h : RsIn w B A rs) (hBw : B ≤ w.heap.size) (hm : rs.length ≤ 2000000) (h0 : 0 < rs.length) (r : Bool) (hr : fvalid ⟨2, a, b, c, [], rs⟩ = r) :
    Calls Try.prog 21 #[.agg #[.int .i64 2, .int .i64 a, .int .i64 b, .int .i64 c, .string ⟨#[]⟩, .slice A rs.length cap]] w (BoolPost w r) := by
  have HB := Lib.hid ((Below.refl w.heap.size w).alloc (Nat.le_refl _))
  obtain ⟨q, hq⟩ : ∃ q, (inr a 3 && inr b 0 && inr c 0) = q := ⟨_, rfl⟩
  obtain ⟨v, hv⟩ : ∃ v, rvalid rs = v := ⟨_, rfl⟩
  have R := Lib.hid (show (q && v) = r by rw [← hr, ← hq, ← hv]; simp [fvalid, fkind, flim, h0])
  have Q := Lib.hid hq
  have V := Lib.hid hv
  have H := Lib.hid h
  clear hr hq hv h
  go_enter Try.func21, Try.ntmps21
  go_wp2_with fail
  refine (limit_call w 2 a b c 3 0 0 _ _ q Q.out).mono ?_
  rintro e w' ⟨rfl, rfl⟩
  cases q with
  | false =>
    go_wp2
    go_ret
    exact ⟨ret_bool R.out, HB.out _⟩
  | true =>
    go_wp2_with fail
    have B0 := Lib.hid (HB.out (.cells #[.int .i64 2, .int .i64 a, .int .i64 b, .int .i64 c, .string ⟨#[]⟩, .slice A rs.length cap] 25))
    have hv := ivalid_any B A rs cap _ (H.out.below (B0.out.mono hBw)) (Nat.le_trans hBw B0.out.size) (Nat.le_trans hm (by decide))
    rw [V.out] at hv
    with_reducible refine hv.mono ?_
    clear hv
    rintro e w2 ⟨rfl, hB⟩
    have B2 := Lib.hid (drew2 B0.out hB)
    clear hB
    go_wp2
    go_ret
    exact ⟨ret_bool R.out, B2.out⟩
set_option maxHeartbeats 800000 in
theorem ifv_eo (k : Int) (a b c : Int) (A : Option Addr) (cap : Nat) (w : World) (hk : k < 0 ∨ 10 < k) (r : Bool) (hr : fvalid ⟨k, a, b, c, [], []⟩ = r) :
    Calls Try.prog 21 #[.agg #[.int .i64 k, .int .i64 a, .int .i64 b, .int .i64 c, .string ⟨#[]⟩, .slice A 0 cap]] w (BoolPost w r) := by
  have HB := Lib.hid ((Below.refl w.heap.size w).alloc (Nat.le_refl _))
  have R := Lib.hid (show false = r by
    rw [← hr]
    have h0 : fkind ⟨k, a, b, c, [], []⟩ = false := by
      unfold fkind
      rw [if_neg (by simp only; omega), if_neg (by simp only; omega), if_neg (by simp only; omega), if_neg (by simp only; omega), if_neg (by simp only; omega), if_neg (by simp only; omega), if_neg (by simp only; omega), if_neg (by simp only; omega)]
    unfold fvalid; rw [h0, Bool.and_false])
  clear hr
  rcases hk with hk | hk
  · go_enter Try.func21, Try.ntmps21
    go_wp2_with fail
    go_ret
    exact ⟨ret_bool R.out, HB.out _⟩
  · go_enter Try.func21, Try.ntmps21
    go_wp2_with fail
    go_ret
    exact ⟨ret_bool R.out, HB.out _⟩
set_option maxHeartbeats 800000 in
theorem ifv_d3 (a b c : Int) (s : ByteArray) (A : Option Addr) (cap : Nat) (w : World) (hz : s.size ≤ 12) (hs : 0 < s.size) (r : Bool) (hr : fvalid ⟨3, a, b, c, s.data.toList, []⟩ = r) :
    Calls Try.prog 21 #[.agg #[.int .i64 3, .int .i64 a, .int .i64 b, .int .i64 c, .string s, .slice A 0 cap]] w (BoolPost w r) := by
  have HB := Lib.hid ((Below.refl w.heap.size w).alloc (Nat.le_refl _))
  obtain ⟨e0, e1⟩ := str_ne hs
  have hl := str_len s
  have R := Lib.hid (show (inr a 2 && inr b (30 - (s.size : Int)) && inr c 1) = r by rw [← hr]; unfold fvalid fkind flim; simp only [hl, decide_eq_true hz]; simp)
  clear hr hl
  go_enter Try.func21, Try.ntmps21
  go_wp2_with fail
  refine (limit_call w 3 a b c 2 (30 - (s.size : Int)) 1 _ _ r R.out).mono ?_
  rintro e w' ⟨rfl, rfl⟩
  go_wp2
  go_ret
  exact ⟨rfl, HB.out _⟩
set_option maxHeartbeats 800000 in
theorem ifv_d9 (a b c : Int) (s : ByteArray) (A : Option Addr) (cap : Nat) (w : World) (hz : s.size ≤ 12) (hs : 0 < s.size) (r : Bool) (hr : fvalid ⟨9, a, b, c, s.data.toList, []⟩ = r) :
    Calls Try.prog 21 #[.agg #[.int .i64 9, .int .i64 a, .int .i64 b, .int .i64 c, .string s, .slice A 0 cap]] w (BoolPost w r) := by
  have HB := Lib.hid ((Below.refl w.heap.size w).alloc (Nat.le_refl _))
  obtain ⟨e0, e1⟩ := str_ne hs
  have hl := str_len s
  have R := Lib.hid (show (inr a 0 && inr b 0 && inr c 0) = r by rw [← hr]; unfold fvalid fkind flim; simp only [hl, decide_eq_true hz]; simp)
  clear hr hl
  go_enter Try.func21, Try.ntmps21
  go_wp2_with fail
  refine (limit_call w 9 a b c 0 0 0 _ _ r R.out).mono ?_
  rintro e w' ⟨rfl, rfl⟩
  go_wp2
  go_ret
  exact ⟨rfl, HB.out _⟩
set_option maxHeartbeats 800000 in
theorem ifv_long (k : Int) (a b c : Int) (s : ByteArray) (B : Nat) (rs : List Rg) (A : Option Addr) (cap : Nat) (w : World) (hz : 12 < s.size) (hm : rs.length ≤ 2000000) (r : Bool) (hr : fvalid ⟨k, a, b, c, s.data.toList, rs⟩ = r) :
    Calls Try.prog 21 #[.agg #[.int .i64 k, .int .i64 a, .int .i64 b, .int .i64 c, .string s, .slice A rs.length cap]] w (BoolPost w r) := by
  have HB := Lib.hid ((Below.refl w.heap.size w).alloc (Nat.le_refl _))
  have R := Lib.hid (show false = r by rw [← hr]; unfold fvalid; rw [decide_eq_false (by simp only [str_len]; omega)]; rfl)
  clear hr
  have hm2 := hm
  go_enter Try.func21, Try.ntmps21
  go_wp2_with fail
  go_ret
  exact ⟨ret_bool R.out, HB.out _⟩
set_option maxHeartbeats 800000 in
theorem ifv_data (k : Int) (a b c : Int) (s : ByteArray) (B : Nat) (rs : List Rg) (A : Option Addr) (cap : Nat) (w : World) (hz : s.size ≤ 12) (hs : 0 < s.size) (h3 : ¬ k = 3) (h9 : ¬ k = 9) (hm : rs.length ≤ 2000000) (r : Bool) (hr : fvalid ⟨k, a, b, c, s.data.toList, rs⟩ = r) :
    Calls Try.prog 21 #[.agg #[.int .i64 k, .int .i64 a, .int .i64 b, .int .i64 c, .string s, .slice A rs.length cap]] w (BoolPost w r) := by
  have HB := Lib.hid ((Below.refl w.heap.size w).alloc (Nat.le_refl _))
  have R := Lib.hid (show false = r by rw [← hr]; unfold fvalid; rw [decide_eq_false (show ¬ s.data.toList.length = 0 by rw [str_len]; omega), decide_eq_false h3, decide_eq_false h9, Bool.or_false, Bool.or_false, Bool.and_false]; rfl)
  clear hr
  obtain ⟨e0, e1⟩ := str_ne hs
  go_enter Try.func21, Try.ntmps21
  go_wp2_with fail
  go_ret
  exact ⟨ret_bool R.out, HB.out _⟩
set_option maxHeartbeats 800000 in
theorem ifv_ranges_e (k : Int) (a b c : Int) (B : Nat) (rs : List Rg) (A : Option Addr) (cap : Nat) (w : World) (h0 : 0 < rs.length) (h2 : ¬ k = 2) (hm : rs.length ≤ 2000000) (r : Bool) (hr : fvalid ⟨k, a, b, c, [], rs⟩ = r) :
    Calls Try.prog 21 #[.agg #[.int .i64 k, .int .i64 a, .int .i64 b, .int .i64 c, .string ⟨#[]⟩, .slice A rs.length cap]] w (BoolPost w r) := by
  have HB := Lib.hid ((Below.refl w.heap.size w).alloc (Nat.le_refl _))
  have R := Lib.hid (show false = r by rw [← hr]; unfold fvalid; rw [decide_eq_false (show ¬ rs.length = 0 by omega), decide_eq_false h2, Bool.or_false, Bool.and_false]; rfl)
  clear hr
  have hm2 := hm
  go_enter Try.func21, Try.ntmps21
  go_wp2_with fail
  go_ret
  exact ⟨ret_bool R.out, HB.out _⟩
set_option maxHeartbeats 800000 in
theorem ifv_ranges_3 (a b c : Int) (s : ByteArray) (B : Nat) (rs : List Rg) (A : Option Addr) (cap : Nat) (w : World) (hz : s.size ≤ 12) (hs : 0 < s.size) (h0 : 0 < rs.length) (hm : rs.length ≤ 2000000) (r : Bool) (hr : fvalid ⟨3, a, b, c, s.data.toList, rs⟩ = r) :
    Calls Try.prog 21 #[.agg #[.int .i64 3, .int .i64 a, .int .i64 b, .int .i64 c, .string s, .slice A rs.length cap]] w (BoolPost w r) := by
  have HB := Lib.hid ((Below.refl w.heap.size w).alloc (Nat.le_refl _))
  have R := Lib.hid (show false = r by rw [← hr]; unfold fvalid; rw [decide_eq_false (show ¬ rs.length = 0 by omega), decide_eq_false (show ¬ (3 : Int) = 2 by decide), Bool.or_false, Bool.and_false]; rfl)
  clear hr
  obtain ⟨e0, e1⟩ := str_ne hs
  go_enter Try.func21, Try.ntmps21
  go_wp2_with fail
  go_ret
  exact ⟨ret_bool R.out, HB.out _⟩
set_option maxHeartbeats 800000 in
theorem ifv_ranges_9 (a b c : Int) (s : ByteArray) (B : Nat) (rs : List Rg) (A : Option Addr) (cap : Nat) (w : World) (hz : s.size ≤ 12) (hs : 0 < s.size) (h0 : 0 < rs.length) (hm : rs.length ≤ 2000000) (r : Bool) (hr : fvalid ⟨9, a, b, c, s.data.toList, rs⟩ = r) :
    Calls Try.prog 21 #[.agg #[.int .i64 9, .int .i64 a, .int .i64 b, .int .i64 c, .string s, .slice A rs.length cap]] w (BoolPost w r) := by
  have HB := Lib.hid ((Below.refl w.heap.size w).alloc (Nat.le_refl _))
  have R := Lib.hid (show false = r by rw [← hr]; unfold fvalid; rw [decide_eq_false (show ¬ rs.length = 0 by omega), decide_eq_false (show ¬ (9 : Int) = 2 by decide), Bool.or_false, Bool.and_false]; rfl)
  clear hr
  obtain ⟨e0, e1⟩ := str_ne hs
  go_enter Try.func21, Try.ntmps21
  go_wp2_with fail
  go_ret
  exact ⟨ret_bool R.out, HB.out _⟩
/-- The program's validity of a frame. -/
theorem ifv_any (k a b c : Int) (s : ByteArray) (B : Nat) (rs : List Rg) (A : Option Addr) (cap : Nat) (w : World) (h : RsIn w B A rs) (hBw : B ≤ w.heap.size) (hm : rs.length ≤ 2000000) (r : Bool) (hr : fvalid ⟨k, a, b, c, s.data.toList, rs⟩ = r) :
    Calls Try.prog 21 #[.agg #[.int .i64 k, .int .i64 a, .int .i64 b, .int .i64 c, .string s, .slice A rs.length cap]] w (BoolPost w r) := by
  by_cases hz : 12 < s.size
  · exact ifv_long k a b c s B rs A cap w hz hm r hr
  · by_cases hs : s.size = 0
    · obtain rfl := empty_of hs
      by_cases h0 : 0 < rs.length
      · by_cases h2 : k = 2
        · subst h2; exact ifv_r2 a b c B rs A cap w h hBw hm h0 r hr
        · exact ifv_ranges_e k a b c B rs A cap w h0 h2 hm r hr
      · obtain rfl : rs = [] := List.length_eq_zero_iff.1 (by omega)
        by_cases ho : k < 0 ∨ 10 < k
        · exact ifv_eo k a b c A cap w ho r hr
        · have hk : k = 0 ∨ k = 1 ∨ k = 2 ∨ k = 3 ∨ k = 4 ∨ k = 5 ∨ k = 6 ∨ k = 7 ∨ k = 8 ∨ k = 9 ∨ k = 10 := by omega
          rcases hk with rfl | rfl | rfl | rfl | rfl | rfl | rfl | rfl | rfl | rfl | rfl
          · exact ifv_e0 a b c A cap w r hr
          · exact ifv_e1 a b c A cap w r hr
          · exact ifv_e2 a b c A cap w r hr
          · exact ifv_e3 a b c A cap w r hr
          · exact ifv_e4 a b c A cap w r hr
          · exact ifv_e5 a b c A cap w r hr
          · exact ifv_e6 a b c A cap w r hr
          · exact ifv_e7 a b c A cap w r hr
          · exact ifv_e8 a b c A cap w r hr
          · exact ifv_e9 a b c A cap w r hr
          · exact ifv_e10 a b c A cap w r hr
    · by_cases h3 : k = 3
      · subst h3
        by_cases h0 : 0 < rs.length
        · exact ifv_ranges_3 a b c s B rs A cap w (by omega) (by omega) h0 hm r hr
        · obtain rfl : rs = [] := List.length_eq_zero_iff.1 (by omega)
          exact ifv_d3 a b c s A cap w (by omega) (by omega) r hr
      · by_cases h9 : k = 9
        · subst h9
          by_cases h0 : 0 < rs.length
          · exact ifv_ranges_9 a b c s B rs A cap w (by omega) (by omega) h0 hm r hr
          · obtain rfl : rs = [] := List.length_eq_zero_iff.1 (by omega)
            exact ifv_d9 a b c s A cap w (by omega) (by omega) r hr
        · exact ifv_data k a b c s B rs A cap w (by omega) (by omega) h3 h9 hm r hr
end Go.Proofs.Ytibnjbbiagjnjaa
