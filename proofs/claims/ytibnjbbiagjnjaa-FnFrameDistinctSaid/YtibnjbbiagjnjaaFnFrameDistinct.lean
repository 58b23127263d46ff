/- Proved: the law FnFrameDistinct returns true for every input and leaves its arguments as they were: Different frames have different encodings. (P41) No condition. -/
import Derived.Test.YtibnjbbiagjnjaaRows
import Derived.WalkKit
import Derived.ProofKit
import Derived.OpenShut
import Derived.ShutString
import Derived.ChangeOld
import Derived.Below
import Derived.Test.YtibnjbbiagjnjaaHead
import Derived.Test.YtibnjbbiagjnjaaFSame
import Derived.Test.YtibnjbbiagjnjaaFDraw2
namespace Go.Proofs.Ytibnjbbiagjnjaa.fnFrameDistinct
open Go.ChangeShapes Go.WideShapes Go.ChangeAt Go.RowKit
open Go.ChangeMaps (open_string shut_string)
set_option linter.unusedVariables false

theorem own : ownKnob Try.prog.godebug = none := by kernel_rfl
theorem laidOut : laidOutB Try.prog = true := by kernel_rfl

theorem walk (a0 : Option Addr) (len0 cap0 : Nat) (z0 : List Int) (a1 : Option Addr) (len1 cap1 : Nat) (z1 : List Int) (w : World) (w0 : IsRow .u8 w a0 len0 cap0 z0) (w1 : IsRow .u8 w a1 len1 cap1 z1) :
    Calls Try.prog 3 #[.slice a0 len0 cap0, .slice a1 len1 cap1] w fun e w' => e = .returned (.bool true) ∧ Below w.heap.size w w' := by
  have hc := codeArg_of w0
  have hc' := codeArg_of w1
  have hl := hc.1
  have hm := hc.2.1
  have hl' := hc'.1
  have hm' := hc'.2.1
  have HC := Lib.hid hc
  have HC' := Lib.hid hc'
  clear w0 w1 hc hc'
  by_cases h1 : len0 ≤ 1048576
  · by_cases h2 : len1 ≤ 1048576
    · have BB0 := Lib.hid (Below.refl w.heap.size w)
      go_enter Try.func3, Try.ntmps3
      go_wp2_with fail
      refine (drawFE_any a0 len0 cap0 w HC.out).mono ?_
      rintro e v1 ⟨k, a, b, c, s, A, cap, rs, rfl, hrl, hsl, hO, hB⟩
      have O1 := Lib.hid (hO.alloc (.cells #[.int .i64 k, .int .i64 a, .int .i64 b, .int .i64 c, .string s, .slice A rs.length cap] 25))
      have X1 := Lib.hid (FBlk.new v1 k a b c s A rs.length cap)
      have B1 := Lib.hid (hB.alloc hB.size (.cells #[.int .i64 k, .int .i64 a, .int .i64 b, .int .i64 c, .string s, .slice A rs.length cap] 25))
      have hz1 : v1.heap.size < (v1.alloc (.cells #[.int .i64 k, .int .i64 a, .int .i64 b, .int .i64 c, .string s, .slice A rs.length cap] 25)).heap.size := by simp
      clear hO hB BB0
      obtain ⟨q, HQ⟩ : ∃ q, Hid (fvalid ⟨k, a, b, c, s.data.toList, rs⟩ = q) := ⟨_, rfl⟩
      obtain ⟨y, HY⟩ : ∃ y, Hid ((⟨(fenc ⟨k, a, b, c, s.data.toList, rs⟩).toArray⟩ : ByteArray) = y) := ⟨_, rfl⟩
      go_wp2_with fail
      with_reducible refine (ifenc_is O1.out (by omega) (by omega) HY.out).mono ?_
      rintro e v2 ⟨rfl, hB⟩
      have O2 := Lib.hid (O1.out.below hB)
      have X2 := Lib.hid (X1.out.below hB hz1)
      have B2 := Lib.hid (drew2 B1.out hB)
      have hz2 : v1.heap.size < v2.heap.size := Nat.lt_of_lt_of_le hz1 hB.size
      obtain ⟨x0, x1, x2, x3, x4, x5⟩ := X2.out.cells
      clear hB O1 X1 B1 hz1
      go_wp2_with fail
      with_reducible refine (sfenc_is O2.out (by omega) (by omega) HY.out).mono ?_
      rintro e v3 ⟨rfl, hB⟩
      have O3 := Lib.hid (O2.out.below hB)
      have X3 := Lib.hid (X2.out.below hB hz2)
      have B3 := Lib.hid (drew2 B2.out hB)
      have hz3 : v1.heap.size < v3.heap.size := Nat.lt_of_lt_of_le hz2 hB.size
      clear x0 x1 x2 x3 x4 x5
      obtain ⟨x0, x1, x2, x3, x4, x5⟩ := X3.out.cells
      clear hB O2 X2 B2 hz2
      cases q with
      | false =>
        have e := enc_empty HQ.out HY.out
        subst e
        go_wp2
        go_ret
        exact ⟨ret_bool (by first | rfl | (simp; done)), B3.out⟩
      | true =>
        have hy0 := enc_nonempty HQ.out HY.out
        obtain ⟨e0, e1⟩ := str_ne hy0
        clear x0 x1 x2 x3 x4 x5
        go_wp2_with fail
        refine (drawFE_any a1 len1 cap1 v3 (HC'.out.below B3.out)).mono ?_
        rintro e v4 ⟨k', a', b', c', s', A', cap', rs', rfl, hrl', hsl', hO, hB⟩
        have O4 := Lib.hid ((O3.out.below hB).alloc (.cells #[.int .i64 k', .int .i64 a', .int .i64 b', .int .i64 c', .string s', .slice A' rs'.length cap'] 25))
        have X4 := Lib.hid ((X3.out.below hB hz3).below ((Below.refl _ _).alloc (Nat.le_refl _) (.cells #[.int .i64 k', .int .i64 a', .int .i64 b', .int .i64 c', .string s', .slice A' rs'.length cap'] 25)) (Nat.lt_of_lt_of_le hz3 hB.size))
        have B4 := Lib.hid ((drew2 B3.out hB).alloc (drew2 B3.out hB).size (.cells #[.int .i64 k', .int .i64 a', .int .i64 b', .int .i64 c', .string s', .slice A' rs'.length cap'] 25))
        have P4 := Lib.hid (hO.alloc (.cells #[.int .i64 k', .int .i64 a', .int .i64 b', .int .i64 c', .string s', .slice A' rs'.length cap'] 25))
        have Y4 := Lib.hid (FBlk.new v4 k' a' b' c' s' A' rs'.length cap')
        have hz4 : v4.heap.size < (v4.alloc (.cells #[.int .i64 k', .int .i64 a', .int .i64 b', .int .i64 c', .string s', .slice A' rs'.length cap'] 25)).heap.size := by simp
        have hz5 : v1.heap.size < (v4.alloc (.cells #[.int .i64 k', .int .i64 a', .int .i64 b', .int .i64 c', .string s', .slice A' rs'.length cap'] 25)).heap.size := Nat.lt_trans (Nat.lt_of_lt_of_le hz3 hB.size) hz4
        obtain ⟨y', HY'⟩ : ∃ y', Hid ((⟨(fenc ⟨k', a', b', c', s'.data.toList, rs'⟩).toArray⟩ : ByteArray) = y') := ⟨_, rfl⟩
        clear hO hB O3 X3 B3 HC'
        go_wp2_with fail
        with_reducible refine (ifenc_is P4.out (by omega) (by omega) HY'.out).mono ?_
        rintro e v5 ⟨rfl, hB⟩
        have O5 := Lib.hid (O4.out.below hB)
        have P5 := Lib.hid (P4.out.below hB)
        have X5 := Lib.hid (X4.out.below hB hz5)
        have Y5 := Lib.hid (Y4.out.below hB hz4)
        have B5 := Lib.hid (drew2 B4.out hB)
        obtain ⟨x0, x1, x2, x3, x4, x5⟩ := X5.out.cells
        obtain ⟨y0, y1, y2, y3, y4, y5⟩ := Y5.out.cells
        clear hB O4 P4 X4 Y4 B4 hz4 hz5
        obtain ⟨r, hr⟩ : ∃ r, decide (k = k' ∧ a = a' ∧ b = b' ∧ c = c' ∧ s = s' ∧ rs = rs') = r := ⟨_, rfl⟩
        have HR := Lib.hid hr
        by_cases hyy : y' = y
        · have e2 : r = true := by rw [← hr]; exact decide_eq_true (enc_same hy0 HY.out (HY'.out.trans hyy))
          clear hr
          subst hyy e2
          go_wp2_with fail
          with_reducible refine (sameF_is O5.out P5.out (by omega) HR.out).mono ?_
          rintro e v6 ⟨rfl, hB⟩
          have B6 := Lib.hid (drew2 B5.out hB)
          clear hB
          go_wp2
          go_ret
          exact ⟨ret_bool (by first | rfl | (simp; done)), B6.out⟩
        · have e2 : r = false := by
            rw [← hr]
            refine decide_eq_false fun h => hyy ?_
            obtain ⟨rfl, rfl, rfl, rfl, rfl, rfl⟩ := h
            exact HY'.out.symm.trans HY.out
          have ey := str_beq hyy
          clear hr hyy
          subst e2
          go_wp2_with fail
          with_reducible refine (sameF_is O5.out P5.out (by omega) HR.out).mono ?_
          rintro e v6 ⟨rfl, hB⟩
          have B6 := Lib.hid (drew2 B5.out hB)
          clear hB
          go_wp2
          go_ret
          exact ⟨ret_bool (by first | rfl | (simp; done)), B6.out⟩
    · go_enter Try.func3, Try.ntmps3
      go_wp2
      go_ret
      exact ⟨rfl, Below.refl _ _⟩
  · go_enter Try.func3, Try.ntmps3
    go_wp2
    go_ret
    exact ⟨rfl, Below.refl _ _⟩

set_option maxRecDepth 100000 in
theorem lifted (os : Os) (started : os.Started) (H : Type) (enc : TypeId × Value → H) :
    ReturnsInHanded {} Try.checked os 3 .any (Rows.fnFrameDistinctSpec.pre6 enc Try.prog Try.f3 Rows.fnFrameDistinctRow.domain false) (Rows.fnFrameDistinctSpec.post enc Try.prog Try.f3 false true false false) := by
  refine returnsInHanded_of_change (C := Try.checked) own started (by kernel_rfl) Try.func3
    (ChangeSpec.witness6 (enc := enc) (C := Try.checked) false ⟨#[], #[.slice none 0 0, .slice none 0 0], []⟩ 8 (by kernel_rfl) (by kernel_rfl) (by kernel_rfl) (by kernel_rfl)) ?_
  intro W base args ds gs before hval0 hW hcnd _
  have hval : ∀ (j : Nat) t v, Try.f3.params[j]? = some t → args[j]? = some v → Value.okWide Try.prog W .any base t v := hval0
  have hW' := hW
  obtain ⟨p, q, hA0, hV, rfl, hfz, hnd⟩ := hW
  have hA : DataW.TrodAll enc Try.prog W 0 (fun _ => true) true Try.f3.params.toList args.toList ds p := hA0
  rw [Try.params3] at hA hval
  obtain ⟨v0, vs0, d0, ds0, p0, q0, hargs, rfl, rfl, h0, r0⟩ := trodAll_cons hA
  obtain ⟨v1, vs1, d1, ds1, p1, q1, rfl, rfl, rfl, h1, r1⟩ := trodAll_cons r0
  obtain ⟨rfl, rfl, rfl⟩ := trodAll_nil r1
  obtain rfl : args = #[v0, v1] := by cases args; simp_all
  obtain ⟨rfl, rfl⟩ := trodVars_none hV
  obtain ⟨a0, len0, cap0, rfl⟩ := okWide_slice Try.underlying22 (hval 0 22 v0 rfl rfl)
  have k0 := h0
  have lt0 : ∀ x ∈ p0, x.block < W.heap.size := by obtain ⟨m, hm⟩ := k0; exact DataW.trod_lt m _ _ _ hm
  obtain ⟨z0, w0⟩ : ∃ zs, IsRow .u8 W a0 len0 cap0 zs := by
    obtain ⟨fuel, hf⟩ := h0
    rcases open_ints Try.underlying22 Try.underlying5 (by kernel_rfl) hf with ⟨hcs, _⟩ | ⟨x, l, c, zs, hcs, _, hl, hm, hz, _, hcell, hwz⟩
    · simp [Value.cells] at hcs
      obtain ⟨rfl, rfl, rfl⟩ := hcs
      exact ⟨[], .inl ⟨rfl, rfl, rfl, rfl⟩⟩
    · simp [Value.cells] at hcs
      obtain ⟨rfl, rfl, rfl⟩ := hcs
      exact ⟨zs, .inr ⟨_, rfl, hl, hm, by simpa using hz, hcell, hwz⟩⟩
  obtain ⟨a1, len1, cap1, rfl⟩ := okWide_slice Try.underlying22 (hval 1 22 v1 rfl rfl)
  have k1 := h1
  have lt1 : ∀ x ∈ p1, x.block < W.heap.size := by obtain ⟨m, hm⟩ := k1; exact DataW.trod_lt m _ _ _ hm
  obtain ⟨z1, w1⟩ : ∃ zs, IsRow .u8 W a1 len1 cap1 zs := by
    obtain ⟨fuel, hf⟩ := h1
    rcases open_ints Try.underlying22 Try.underlying5 (by kernel_rfl) hf with ⟨hcs, _⟩ | ⟨x, l, c, zs, hcs, _, hl, hm, hz, _, hcell, hwz⟩
    · simp [Value.cells] at hcs
      obtain ⟨rfl, rfl, rfl⟩ := hcs
      exact ⟨[], .inl ⟨rfl, rfl, rfl, rfl⟩⟩
    · simp [Value.cells] at hcs
      obtain ⟨rfl, rfl, rfl⟩ := hcs
      exact ⟨zs, .inr ⟨_, rfl, hl, hm, by simpa using hz, hcell, hwz⟩⟩
  clear hA0 hval0
  refine (walk a0 len0 cap0 z0 a1 len1 cap1 z1 W w0 w1).mono fun e W' ⟨he, bel⟩ => ?_
  subst he
  exact ⟨_, rfl, _, _, _, [], _, [], hW', trodAll_mk1 (shut_bool Try.underlying4 _), (trodAll_cons_mk (Below.trod laidOut (by kernel_rfl) (of_decide_eq_true (by kernel_rfl)) k0 bel lt0) (trodAll_cons_mk (Below.trod laidOut (by kernel_rfl) (of_decide_eq_true (by kernel_rfl)) k1 bel lt1) trodAll_mk0)), rfl, bel.frame _, fun h => by cases h⟩

theorem closed : joinedFacts Try.prog 3 Try.f3 Rows.fnFrameDistinctSpec Rows.fnFrameDistinctRow = true := by
  unfold joinedFacts
  rw [mayEnter_ok, lifts_ok, make_ok]
  kernel_rfl

theorem over : Rows.fnFrameDistinctRow.holds Try.pinned (OpenSpec.ofChange Rows.fnFrameDistinctSpec) :=
  OpenClaim.holds_of_wide 3 Try.f3 rfl rfl rfl rfl rfl rfl rfl ⟨rfl, rfl, rfl, rfl, rfl⟩ rfl rfl rfl rfl rfl (by kernel_rfl) Try.func3 closed
    (of_decide_eq_true (by kernel_rfl)) (by unfold Func.isWrapper; first | (rw [if_pos (by decide +kernel)]; kernel_rfl) | (rw [if_neg (by decide +kernel)]; exact ⟨rfl, rfl⟩))
    (fun os started H enc _ => lifted os started H enc)

/-- ████ THE STATEMENT ████ -/
theorem proved : Rows.FnFrameDistinctSaid := over
#print axioms proved
end Go.Proofs.Ytibnjbbiagjnjaa.fnFrameDistinct
