/- Proved: the law FnFrameEliciting returns true for every input and leaves its arguments as they were: Padding, acknowledgements and closing are not acknowledged. (P40) No condition. -/
import Derived.Test.YtibnjbbiagjnjaaRows
import Derived.WalkKit
import Derived.ProofKit
import Derived.OpenShut
import Derived.ShutString
import Derived.ChangeOld
import Derived.Below
import Derived.Test.YtibnjbbiagjnjaaHead
import Derived.Test.YtibnjbbiagjnjaaFSame
import Derived.Test.YtibnjbbiagjnjaaFDraw2
namespace Go.Proofs.Ytibnjbbiagjnjaa.fnFrameEliciting
open Go.ChangeShapes Go.WideShapes Go.ChangeAt Go.RowKit
open Go.ChangeMaps (open_string shut_string)
set_option linter.unusedVariables false

theorem own : ownKnob Try.prog.godebug = none := by kernel_rfl
theorem laidOut : laidOutB Try.prog = true := by kernel_rfl

theorem walk (a0 : Option Addr) (len0 cap0 : Nat) (z0 : List Int) (w : World) (w0 : IsRow .u8 w a0 len0 cap0 z0) :
    Calls Try.prog 8 #[.slice a0 len0 cap0] w fun e w' => e = .returned (.bool true) ∧ Below w.heap.size w w' := by
  have hc := codeArg_of w0
  have hl := hc.1
  have hm := hc.2.1
  have HC := Lib.hid hc
  clear w0 hc
  by_cases h1 : len0 ≤ 1048576
  · have BB0 := Lib.hid (Below.refl w.heap.size w)
    go_enter Try.func8, Try.ntmps8
    go_wp2_with fail
    refine (drawFL_any a0 len0 cap0 w HC.out).mono ?_
    rintro e v1 ⟨k, a, b, c, s, A, cap, rs, rfl, hrl, hsl, hO, hB⟩
    have O1 := Lib.hid (hO.alloc (.cells #[.int .i64 k, .int .i64 a, .int .i64 b, .int .i64 c, .string s, .slice A rs.length cap] 25))
    have X1 := Lib.hid (FBlk.new v1 k a b c s A rs.length cap)
    have B1 := Lib.hid (hB.alloc hB.size (.cells #[.int .i64 k, .int .i64 a, .int .i64 b, .int .i64 c, .string s, .slice A rs.length cap] 25))
    have hz1 : v1.heap.size < (v1.alloc (.cells #[.int .i64 k, .int .i64 a, .int .i64 b, .int .i64 c, .string s, .slice A rs.length cap] 25)).heap.size := by simp
    clear hO hB BB0
    obtain ⟨q, HQ⟩ : ∃ q, Hid (fvalid ⟨k, a, b, c, s.data.toList, rs⟩ = q) := ⟨_, rfl⟩
    obtain ⟨r, HR⟩ : ∃ r, Hid (felic ⟨k, a, b, c, s.data.toList, rs⟩ = r) := ⟨_, rfl⟩
    have E := Lib.hid (show (q && (decide (¬ k = 0) && (decide (¬ k = 2) && decide (¬ k = 10)))) = r by rw [← HQ.out]; exact HR.out)
    go_wp2_with fail
    with_reducible refine (ife_is O1.out (by omega) (by omega) HR.out).mono ?_
    rintro e v2 ⟨rfl, hB⟩
    have O2 := Lib.hid (O1.out.below hB)
    have X2 := Lib.hid (X1.out.below hB hz1)
    have B2 := Lib.hid (drew2 B1.out hB)
    have hz2 : v1.heap.size < v2.heap.size := Nat.lt_of_lt_of_le hz1 hB.size
    obtain ⟨x0, x1, x2, x3, x4, x5⟩ := X2.out.cells
    clear hB O1 X1 B1 hz1
    go_wp2_with fail
    with_reducible refine (sfe_is O2.out (by omega) (by omega) HR.out).mono ?_
    rintro e v3 ⟨rfl, hB⟩
    have O3 := Lib.hid (O2.out.below hB)
    have X3 := Lib.hid (X2.out.below hB hz2)
    have B3 := Lib.hid (drew2 B2.out hB)
    have hz3 : v1.heap.size < v3.heap.size := Nat.lt_of_lt_of_le hz2 hB.size
    clear x0 x1 x2 x3 x4 x5
    obtain ⟨x0, x1, x2, x3, x4, x5⟩ := X3.out.cells
    clear hB O2 X2 B2 hz2
    have hne : (r != r) = false := by cases r <;> rfl
    go_wp2_with fail
    with_reducible refine (ifv_is O3.out (by omega) HQ.out).mono ?_
    rintro e v4 ⟨rfl, hB⟩
    have O4 := Lib.hid (O3.out.below hB)
    have X4 := Lib.hid (X3.out.below hB hz3)
    have B4 := Lib.hid (drew2 B3.out hB)
    have hz4 : v1.heap.size < v4.heap.size := Nat.lt_of_lt_of_le hz3 hB.size
    clear x0 x1 x2 x3 x4 x5
    obtain ⟨x0, x1, x2, x3, x4, x5⟩ := X4.out.cells
    clear hB O3 X3 B3 hz3
    cases q with
    | false =>
      have e : r = false := E.out.symm.trans rfl
      subst e
      go_wp2
      go_ret
      exact ⟨ret_bool (by first | rfl | (simp; done)), B4.out⟩
    | true =>
      by_cases k0 : k = 0
      · have e : r = false := E.out.symm.trans (by rw [k0]; rfl)
        subst e
        have t0 : (k != 0) = false := by rw [k0]; rfl
        clear k0
        go_wp2
        go_ret
        exact ⟨ret_bool (by first | rfl | (simp; done)), B4.out⟩
      · have t0 : (k != 0) = true := by rw [bne_iff_ne]; exact k0
        by_cases k2 : k = 2
        · have e : r = false := E.out.symm.trans (by rw [k2]; rfl)
          subst e
          have t2 : (k != 2) = false := by rw [k2]; rfl
          clear k0 k2
          go_wp2
          go_ret
          exact ⟨ret_bool (by first | rfl | (simp; done)), B4.out⟩
        · have t2 : (k != 2) = true := by rw [bne_iff_ne]; exact k2
          by_cases k10 : k = 10
          · have e : r = false := E.out.symm.trans (by rw [k10]; rfl)
            subst e
            have t10 : (k != 10) = false := by rw [k10]; rfl
            clear k0 k2 k10
            go_wp2
            go_ret
            exact ⟨ret_bool (by first | rfl | (simp; done)), B4.out⟩
          · have e : r = true := E.out.symm.trans (by rw [decide_eq_true k0, decide_eq_true k2, decide_eq_true k10]; rfl)
            subst e
            have t10 : (k != 10) = true := by rw [bne_iff_ne]; exact k10
            clear k0 k2 k10
            go_wp2
            go_ret
            exact ⟨ret_bool (by first | rfl | (simp; done)), B4.out⟩
  · go_enter Try.func8, Try.ntmps8
    go_wp2
    go_ret
    exact ⟨rfl, Below.refl _ _⟩

set_option maxRecDepth 100000 in
theorem lifted (os : Os) (started : os.Started) (H : Type) (enc : TypeId × Value → H) :
    ReturnsInHanded {} Try.checked os 8 .any (Rows.fnFrameElicitingSpec.pre6 enc Try.prog Try.f8 Rows.fnFrameElicitingRow.domain false) (Rows.fnFrameElicitingSpec.post enc Try.prog Try.f8 false true false false) := by
  refine returnsInHanded_of_change (C := Try.checked) own started (by kernel_rfl) Try.func8
    (ChangeSpec.witness6 (enc := enc) (C := Try.checked) false ⟨#[], #[.slice none 0 0], []⟩ 8 (by kernel_rfl) (by kernel_rfl) (by kernel_rfl) (by kernel_rfl)) ?_
  intro W base args ds gs before hval0 hW hcnd _
  have hval : ∀ (j : Nat) t v, Try.f8.params[j]? = some t → args[j]? = some v → Value.okWide Try.prog W .any base t v := hval0
  have hW' := hW
  obtain ⟨p, q, hA0, hV, rfl, hfz, hnd⟩ := hW
  have hA : DataW.TrodAll enc Try.prog W 0 (fun _ => true) true Try.f8.params.toList args.toList ds p := hA0
  rw [Try.params8] at hA hval
  obtain ⟨v0, vs0, d0, ds0, p0, q0, hargs, rfl, rfl, h0, r0⟩ := trodAll_cons hA
  obtain ⟨rfl, rfl, rfl⟩ := trodAll_nil r0
  obtain rfl : args = #[v0] := by cases args; simp_all
  obtain ⟨rfl, rfl⟩ := trodVars_none hV
  obtain ⟨a0, len0, cap0, rfl⟩ := okWide_slice Try.underlying22 (hval 0 22 v0 rfl rfl)
  have k0 := h0
  have lt0 : ∀ x ∈ p0, x.block < W.heap.size := by obtain ⟨m, hm⟩ := k0; exact DataW.trod_lt m _ _ _ hm
  obtain ⟨z0, w0⟩ : ∃ zs, IsRow .u8 W a0 len0 cap0 zs := by
    obtain ⟨fuel, hf⟩ := h0
    rcases open_ints Try.underlying22 Try.underlying5 (by kernel_rfl) hf with ⟨hcs, _⟩ | ⟨x, l, c, zs, hcs, _, hl, hm, hz, _, hcell, hwz⟩
    · simp [Value.cells] at hcs
      obtain ⟨rfl, rfl, rfl⟩ := hcs
      exact ⟨[], .inl ⟨rfl, rfl, rfl, rfl⟩⟩
    · simp [Value.cells] at hcs
      obtain ⟨rfl, rfl, rfl⟩ := hcs
      exact ⟨zs, .inr ⟨_, rfl, hl, hm, by simpa using hz, hcell, hwz⟩⟩
  clear hA0 hval0
  refine (walk a0 len0 cap0 z0 W w0).mono fun e W' ⟨he, bel⟩ => ?_
  subst he
  exact ⟨_, rfl, _, _, _, [], _, [], hW', trodAll_mk1 (shut_bool Try.underlying4 _), (trodAll_cons_mk (Below.trod laidOut (by kernel_rfl) (of_decide_eq_true (by kernel_rfl)) k0 bel lt0) trodAll_mk0), rfl, bel.frame _, fun h => by cases h⟩

theorem closed : joinedFacts Try.prog 8 Try.f8 Rows.fnFrameElicitingSpec Rows.fnFrameElicitingRow = true := by
  unfold joinedFacts
  rw [mayEnter_ok, lifts_ok, make_ok]
  kernel_rfl

theorem over : Rows.fnFrameElicitingRow.holds Try.pinned (OpenSpec.ofChange Rows.fnFrameElicitingSpec) :=
  OpenClaim.holds_of_wide 8 Try.f8 rfl rfl rfl rfl rfl rfl rfl ⟨rfl, rfl, rfl, rfl, rfl⟩ rfl rfl rfl rfl rfl (by kernel_rfl) Try.func8 closed
    (of_decide_eq_true (by kernel_rfl)) (by unfold Func.isWrapper; first | (rw [if_pos (by decide +kernel)]; kernel_rfl) | (rw [if_neg (by decide +kernel)]; exact ⟨rfl, rfl⟩))
    (fun os started H enc _ => lifted os started H enc)

/-- ████ THE STATEMENT ████ -/
theorem proved : Rows.FnFrameElicitingSaid := over
#print axioms proved
end Go.Proofs.Ytibnjbbiagjnjaa.fnFrameEliciting
