/- Contracts of the laws' comparison of two frames, and of the encodings at a string. No condition but that the ranges read as the lists. -/
import Derived.Test.YtibnjbbiagjnjaaFEncI
import Derived.Test.YtibnjbbiagjnjaaRMark
namespace Go.Proofs.Ytibnjbbiagjnjaa
open Go.RowKit
set_option linter.unusedVariables false
def StrIs (w : World) (y : ByteArray) (e : Ending) (w' : World) : Prop := e = .returned (.string y) ∧ Below w.heap.size w w'
theorem ifenc_is {k a b c : Int} {s : ByteArray} {B : Nat} {rs : List Rg} {A : Option Addr} {cap : Nat} {w : World} {y : ByteArray} (hO : OwnRs w B A cap rs) (hm : rs.length ≤ 2000000) (hs : s.size ≤ 1000000000000) (hy : ⟨(fenc ⟨k, a, b, c, s.data.toList, rs⟩).toArray⟩ = y) :
    Calls Try.prog 12 #[.agg #[.int .i64 k, .int .i64 a, .int .i64 b, .int .i64 c, .string s, .slice A rs.length cap]] w (StrIs w y) := by
  subst hy
  exact ifenc_any k a b c s w.heap.size rs A cap w hO.in_ (Nat.le_refl _) hm hs _ rfl
theorem sfenc_is {k a b c : Int} {s : ByteArray} {B : Nat} {rs : List Rg} {A : Option Addr} {cap : Nat} {w : World} {y : ByteArray} (hO : OwnRs w B A cap rs) (hm : rs.length ≤ 2000000) (hs : s.size ≤ 1000000000000) (hy : ⟨(fenc ⟨k, a, b, c, s.data.toList, rs⟩).toArray⟩ = y) :
    Calls Try.prog 13 #[.agg #[.int .i64 k, .int .i64 a, .int .i64 b, .int .i64 c, .string s, .slice A rs.length cap]] w (StrIs w y) := by
  subst hy
  exact sfenc_any k a b c s w.heap.size rs A cap w hO.in_ (Nat.le_refl _) hm hs _ rfl
theorem ifv_is {k a b c : Int} {s : ByteArray} {B : Nat} {rs : List Rg} {A : Option Addr} {cap : Nat} {w : World} {q : Bool} (hO : OwnRs w B A cap rs) (hm : rs.length ≤ 2000000) (hq : fvalid ⟨k, a, b, c, s.data.toList, rs⟩ = q) :
    Calls Try.prog 21 #[.agg #[.int .i64 k, .int .i64 a, .int .i64 b, .int .i64 c, .string s, .slice A rs.length cap]] w (BoolPost w q) := ifv_any k a b c s w.heap.size rs A cap w hO.in_ (Nat.le_refl _) hm q hq
theorem sfv_is {k a b c : Int} {s : ByteArray} {B : Nat} {rs : List Rg} {A : Option Addr} {cap : Nat} {w : World} {q : Bool} (hO : OwnRs w B A cap rs) (hm : rs.length ≤ 2000000) (hs : s.size ≤ 1000000000000) (hq : fvalid ⟨k, a, b, c, s.data.toList, rs⟩ = q) :
    Calls Try.prog 23 #[.agg #[.int .i64 k, .int .i64 a, .int .i64 b, .int .i64 c, .string s, .slice A rs.length cap]] w (BoolPost w q) := sfv_any k a b c s w.heap.size rs A cap w hO.in_ (Nat.le_refl _) hm hs q hq
theorem ife_is {k a b c : Int} {s : ByteArray} {B : Nat} {rs : List Rg} {A : Option Addr} {cap : Nat} {w : World} {q : Bool} (hO : OwnRs w B A cap rs) (hm : rs.length ≤ 2000000) (hs : s.size ≤ 1000000000000) (hq : felic ⟨k, a, b, c, s.data.toList, rs⟩ = q) :
    Calls Try.prog 27 #[.agg #[.int .i64 k, .int .i64 a, .int .i64 b, .int .i64 c, .string s, .slice A rs.length cap]] w (BoolPost w q) := ife_any k a b c s w.heap.size rs A cap w hO.in_ (Nat.le_refl _) hm hs q hq
theorem sfe_is {k a b c : Int} {s : ByteArray} {B : Nat} {rs : List Rg} {A : Option Addr} {cap : Nat} {w : World} {q : Bool} (hO : OwnRs w B A cap rs) (hm : rs.length ≤ 2000000) (hs : s.size ≤ 1000000000000) (hq : felic ⟨k, a, b, c, s.data.toList, rs⟩ = q) :
    Calls Try.prog 26 #[.agg #[.int .i64 k, .int .i64 a, .int .i64 b, .int .i64 c, .string s, .slice A rs.length cap]] w (BoolPost w q) := sfe_any k a b c s w.heap.size rs A cap w hO.in_ (Nat.le_refl _) hm hs q hq
theorem enc_nonempty {k a b c : Int} {s : ByteArray} {rs : List Rg} {y : ByteArray} (hv : fvalid ⟨k, a, b, c, s.data.toList, rs⟩ = true) (hy : ⟨(fenc ⟨k, a, b, c, s.data.toList, rs⟩).toArray⟩ = y) : 0 < y.size := by
  have h := fraw_ne _ hv
  rw [← hy]
  unfold fenc
  rw [hv, size_of_list ⟨_⟩ _ rfl]
  exact List.length_pos_iff.2 h
theorem enc_empty {k a b c : Int} {s : ByteArray} {rs : List Rg} {y : ByteArray} (hv : fvalid ⟨k, a, b, c, s.data.toList, rs⟩ = false) (hy : ⟨(fenc ⟨k, a, b, c, s.data.toList, rs⟩).toArray⟩ = y) : y = ⟨#[]⟩ := by
  rw [← hy]
  unfold fenc
  rw [hv]; rfl
theorem enc_same {k a b c k' a' b' c' : Int} {s s' : ByteArray} {rs rs' : List Rg} {y : ByteArray} (h0 : 0 < y.size) (hy : ⟨(fenc ⟨k, a, b, c, s.data.toList, rs⟩).toArray⟩ = y) (hy' : ⟨(fenc ⟨k', a', b', c', s'.data.toList, rs'⟩).toArray⟩ = y) :
    k = k' ∧ a = a' ∧ b = b' ∧ c = c' ∧ s = s' ∧ rs = rs' := by
  have e : fenc ⟨k, a, b, c, s.data.toList, rs⟩ = fenc ⟨k', a', b', c', s'.data.toList, rs'⟩ := by
    have := hy.trans hy'.symm
    injection this with this
    simpa using congrArg Array.toList this
  have hne : fenc ⟨k, a, b, c, s.data.toList, rs⟩ ≠ [] := fun h => by
    rw [h] at hy
    rw [← hy] at h0
    exact absurd h0 (by decide)
  have := fenc_inj e hne
  injection this with h1 h2 h3 h4 h5 h6
  exact ⟨h1, h2, h3, h4, bytes_ext h5, h6⟩
theorem str_beq {s t : ByteArray} (h : ¬ s = t) : (s.toList == t.toList) = false := by
  rw [beq_eq_false_iff_ne, ByteArray.toList_eq, ByteArray.toList_eq]
  exact fun e => h (bytes_ext e)
section
variable (k a b c : Int) (s : ByteArray) (rs : List Rg) (A : Option Addr) (cap : Nat) (k' a' b' c' : Int) (s' : ByteArray) (rs' : List Rg) (A' : Option Addr) (cap' : Nat) (w : World)
theorem sameF_k (h : ¬ k = k') : Calls Try.prog 14 #[.agg #[.int .i64 k, .int .i64 a, .int .i64 b, .int .i64 c, .string s, .slice A rs.length cap], .agg #[.int .i64 k', .int .i64 a', .int .i64 b', .int .i64 c', .string s', .slice A' rs'.length cap']] w (BoolPost w false) := by
  have HB := Lib.hid (fun o o' => ((Below.refl w.heap.size w).alloc (Nat.le_refl _) o).alloc (by simp) o')
  have e : (k == k') = false := beq_eq_false_iff_ne.2 h
  clear h
  go_enter Try.func14, Try.ntmps14
  go_wp2_with fail
  go_ret
  exact ⟨rfl, HB.out _ _⟩
theorem sameF_a (h : ¬ a = a') : Calls Try.prog 14 #[.agg #[.int .i64 k, .int .i64 a, .int .i64 b, .int .i64 c, .string s, .slice A rs.length cap], .agg #[.int .i64 k, .int .i64 a', .int .i64 b', .int .i64 c', .string s', .slice A' rs'.length cap']] w (BoolPost w false) := by
  have HB := Lib.hid (fun o o' => ((Below.refl w.heap.size w).alloc (Nat.le_refl _) o).alloc (by simp) o')
  have e : (a == a') = false := beq_eq_false_iff_ne.2 h
  clear h
  go_enter Try.func14, Try.ntmps14
  go_wp2_with fail
  go_ret
  exact ⟨rfl, HB.out _ _⟩
theorem sameF_b (h : ¬ b = b') : Calls Try.prog 14 #[.agg #[.int .i64 k, .int .i64 a, .int .i64 b, .int .i64 c, .string s, .slice A rs.length cap], .agg #[.int .i64 k, .int .i64 a, .int .i64 b', .int .i64 c', .string s', .slice A' rs'.length cap']] w (BoolPost w false) := by
  have HB := Lib.hid (fun o o' => ((Below.refl w.heap.size w).alloc (Nat.le_refl _) o).alloc (by simp) o')
  have e : (b == b') = false := beq_eq_false_iff_ne.2 h
  clear h
  go_enter Try.func14, Try.ntmps14
  go_wp2_with fail
  go_ret
  exact ⟨rfl, HB.out _ _⟩
theorem sameF_c (h : ¬ c = c') : Calls Try.prog 14 #[.agg #[.int .i64 k, .int .i64 a, .int .i64 b, .int .i64 c, .string s, .slice A rs.length cap], .agg #[.int .i64 k, .int .i64 a, .int .i64 b, .int .i64 c', .string s', .slice A' rs'.length cap']] w (BoolPost w false) := by
  have HB := Lib.hid (fun o o' => ((Below.refl w.heap.size w).alloc (Nat.le_refl _) o).alloc (by simp) o')
  have e : (c == c') = false := beq_eq_false_iff_ne.2 h
  clear h
  go_enter Try.func14, Try.ntmps14
  go_wp2_with fail
  go_ret
  exact ⟨rfl, HB.out _ _⟩
theorem sameF_s (h : ¬ s = s') : Calls Try.prog 14 #[.agg #[.int .i64 k, .int .i64 a, .int .i64 b, .int .i64 c, .string s, .slice A rs.length cap], .agg #[.int .i64 k, .int .i64 a, .int .i64 b, .int .i64 c, .string s', .slice A' rs'.length cap']] w (BoolPost w false) := by
  have HB := Lib.hid (fun o o' => ((Below.refl w.heap.size w).alloc (Nat.le_refl _) o).alloc (by simp) o')
  have e := str_beq h
  clear h
  go_enter Try.func14, Try.ntmps14
  go_wp2_with fail
  go_ret
  exact ⟨rfl, HB.out _ _⟩
theorem sameF_rs (B B' : Nat) (hI : RsIn w B A rs) (hI' : RsIn w B' A' rs') (hBw : B ≤ w.heap.size) (hBw' : B' ≤ w.heap.size) (hm : rs.length ≤ 2000000) (r : Bool) (hr : decide (rs = rs') = r) : Calls Try.prog 14 #[.agg #[.int .i64 k, .int .i64 a, .int .i64 b, .int .i64 c, .string s, .slice A rs.length cap], .agg #[.int .i64 k, .int .i64 a, .int .i64 b, .int .i64 c, .string s, .slice A' rs'.length cap']] w (BoolPost w r) := by
  have HB := Lib.hid (fun o o' => ((Below.refl w.heap.size w).alloc (Nat.le_refl _) o).alloc (by simp) o')
  have H := Lib.hid hI
  have H' := Lib.hid hI'
  have R := Lib.hid hr
  clear hI hI' hr
  go_enter Try.func14, Try.ntmps14
  go_wp2_with fail
  refine (sameRs_any B B' A A' rs rs' cap cap' _ (H.out.below ((HB.out _ _).mono hBw)) (H'.out.below ((HB.out _ _).mono hBw')) (Nat.le_trans hBw (HB.out _ _).size) (Nat.le_trans hBw' (HB.out _ _).size) (Nat.le_trans hm (by decide))).mono ?_
  rintro e w1 ⟨rfl, hB⟩
  have B1 := Lib.hid (drew2 (HB.out _ _) hB)
  clear hB
  rw [R.out]
  go_wp2
  go_ret
  exact ⟨rfl, B1.out⟩
end
theorem sameF_is {k a b c : Int} {s : ByteArray} {rs : List Rg} {A : Option Addr} {cap : Nat} {k' a' b' c' : Int} {s' : ByteArray} {rs' : List Rg} {A' : Option Addr} {cap' : Nat} {w : World} {B B' : Nat} {r : Bool} (hO : OwnRs w B A cap rs) (hO' : OwnRs w B' A' cap' rs') (hm : rs.length ≤ 2000000) (hr : decide (k = k' ∧ a = a' ∧ b = b' ∧ c = c' ∧ s = s' ∧ rs = rs') = r) :
    Calls Try.prog 14 #[.agg #[.int .i64 k, .int .i64 a, .int .i64 b, .int .i64 c, .string s, .slice A rs.length cap], .agg #[.int .i64 k', .int .i64 a', .int .i64 b', .int .i64 c', .string s', .slice A' rs'.length cap']] w (BoolPost w r) := by
  by_cases h1 : k = k'
  · subst h1
    by_cases h2 : a = a'
    · subst h2
      by_cases h3 : b = b'
      · subst h3
        by_cases h4 : c = c'
        · subst h4
          by_cases h5 : s = s'
          · subst h5
            exact sameF_rs k a b c s rs A cap rs' A' cap' w w.heap.size w.heap.size hO.in_ hO'.in_ (Nat.le_refl _) (Nat.le_refl _) hm r (by rw [← hr]; simp)
          · have : r = false := by rw [← hr]; simp [h5]
            rw [this]; exact sameF_s _ _ _ _ _ _ _ _ _ _ _ _ _ h5
        · have : r = false := by rw [← hr]; simp [h4]
          rw [this]; exact sameF_c _ _ _ _ _ _ _ _ _ _ _ _ _ _ h4
      · have : r = false := by rw [← hr]; simp [h3]
        rw [this]; exact sameF_b _ _ _ _ _ _ _ _ _ _ _ _ _ _ _ h3
    · have : r = false := by rw [← hr]; simp [h2]
      rw [this]; exact sameF_a _ _ _ _ _ _ _ _ _ _ _ _ _ _ _ _ h2
  · have : r = false := by rw [← hr]; simp [h1]
    rw [this]; exact sameF_k _ _ _ _ _ _ _ _ _ _ _ _ _ _ _ _ _ h1
end Go.Proofs.Ytibnjbbiagjnjaa
