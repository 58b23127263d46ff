/- Proved: the law FnExactRangesHas returns true for every input and leaves its arguments as they were: The program's RangesHas returns what the reference's returns, for all arguments. No condition. -/
import Derived.Test.YtclfkkapahdgaaaRows
import Derived.WalkKit
import Derived.ProofKit
import Derived.OpenShut
import Derived.ShutString
import Derived.ChangeOld
import Derived.Below
import Derived.Test.YtclfkkapahdgaaaHead
import Derived.Test.YtclfkkapahdgaaaHead
import Derived.Test.YtclfkkapahdgaaaOpenRs
import Derived.Test.YtclfkkapahdgaaaRngEq
import Derived.Test.YtclfkkapahdgaaaRHas
namespace Go.Proofs.Ytclfkkapahdgaaa.fnExactRangesHas
open Go.ChangeShapes Go.WideShapes Go.ChangeAt Go.RowKit
set_option linter.unusedVariables false
theorem own : ownKnob Try.prog.godebug = none := by kernel_rfl
theorem laidOut : laidOutB Try.prog = true := by kernel_rfl
theorem eq_same (B B' : Nat) (A A' : Option Addr) (xs : List Rg) (c c' : Nat) (w : World) (h : RsIn w B A xs) (h' : RsIn w B' A' xs) (hBw : B ≤ w.heap.size) (hBw' : B' ≤ w.heap.size) (hm : xs.length ≤ 1000000000000) :
    Calls Try.prog 25 #[.slice A xs.length c, .slice A' xs.length c'] w (BoolPost w true) :=
  (eqRs_any B B' A A' xs xs c c' w h h' hBw hBw' hm).mono fun _ _ ⟨he, hb⟩ => ⟨by rw [he, decide_eq_true rfl], hb⟩
theorem walk (a0 : Option Addr) (len0 cap0 : Nat) (r0 : List Rg) (a1 : Int) (w : World) (w0 : r0.length = len0 ∧ RsIn w w.heap.size a0 r0 ∧ len0 ≤ 9223372036854775807) (w1 : (Lit.int .i64 a1).wf = true) :
    Calls Try.prog 6 #[.slice a0 len0 cap0, .int .i64 a1] w fun e w' => e = .returned (.bool true) ∧ Below w.heap.size w w' := by
  obtain ⟨hxl, hI, hcap⟩ := w0
  subst hxl
  have I := Lib.hid hI
  clear hI
  by_cases hl : r0.length ≤ 1048576
  · obtain ⟨b, hb⟩ : ∃ b, (rvalid r0 && rhas r0 a1) = b := ⟨_, rfl⟩
    have HB := Lib.hid hb
    clear hb
    go_enter Try.func6, Try.ntmps6
    go_wp2_with fail
    refine (size_fits _ _ _ _ _ (by omega) (by omega)).mono ?_
    rintro e w1 ⟨rfl, rfl⟩
    go_wp2_with fail
    with_reducible refine (toRs_any w.heap.size a0 r0 cap0 w I.out (Nat.le_refl _) (by omega)).mono ?_
    rintro e w1 ⟨A1, c1, rfl, hO, hB⟩
    have O1 := Lib.hid hO.in_
    have B1 := Lib.hid hB
    clear hO hB
    go_wp2_with fail
    have hv := sphas_any w1.heap.size A1 r0 c1 a1 w1 O1.out (Nat.le_refl _) (by omega)
    rw [HB.out] at hv
    with_reducible refine hv.mono ?_
    clear hv
    rintro e w2 ⟨rfl, hB⟩
    have B2 := Lib.hid (drew2 B1.out hB)
    clear hB
    go_wp2_with fail
    with_reducible refine (toRs_any w.heap.size a0 r0 cap0 w2 (I.out.below B2.out) B2.out.size (by omega)).mono ?_
    rintro e w3 ⟨A3, c3, rfl, hO, hB⟩
    have O3 := Lib.hid hO.in_
    have B3 := Lib.hid (drew2 B2.out hB)
    clear hO hB
    go_wp2_with fail
    have hv := iphas_any w3.heap.size A3 r0 c3 a1 w3 O3.out (Nat.le_refl _) (by omega)
    rw [HB.out] at hv
    with_reducible refine hv.mono ?_
    clear hv
    rintro e w4 ⟨rfl, hB⟩
    have O4 := Lib.hid ((O3.out.below hB).mono hB.size)
    have B4 := Lib.hid (drew2 B3.out hB)
    clear hB
    go_wp2_with fail
    with_reducible refine (toRs_any w.heap.size a0 r0 cap0 w4 (I.out.below B4.out) B4.out.size (by omega)).mono ?_
    rintro e w5 ⟨A5, c5, rfl, hO, hB⟩
    have O5 := Lib.hid hO.in_
    have O6 := Lib.hid ((O4.out.below hB).mono hB.size)
    have B5 := Lib.hid (drew2 B4.out hB)
    clear hO hB
    go_wp2_with fail
    with_reducible refine (eq_same w5.heap.size w5.heap.size A3 A5 r0 c3 c5 w5 O6.out O5.out (Nat.le_refl _) (Nat.le_refl _) (by omega)).mono ?_
    rintro e w6 ⟨rfl, hB⟩
    have B6 := Lib.hid (drew2 B5.out hB)
    clear hB
    go_wp2
    go_ret
    exact ⟨rfl, B6.out⟩
  · go_enter Try.func6, Try.ntmps6
    go_wp2_with fail
    refine (size_over _ _ _ _ _ (by omega) (by omega) (by omega) (by omega)).mono ?_
    rintro e w1 ⟨rfl, rfl⟩
    go_wp2
    go_ret
    exact ⟨rfl, Below.refl _ _⟩
set_option maxRecDepth 100000 in
theorem lifted (os : Os) (started : os.Started) (H : Type) (enc : TypeId × Value → H) :
    ReturnsInHanded {} Try.checked os 6 .any (Rows.fnExactRangesHasSpec.pre6 enc Try.prog Try.f6 Rows.fnExactRangesHasRow.domain false) (Rows.fnExactRangesHasSpec.post enc Try.prog Try.f6 false true false false) := by
  refine returnsInHanded_of_change (C := Try.checked) own started (by kernel_rfl) Try.func6
    (ChangeSpec.witness6 (enc := enc) (C := Try.checked) false ⟨#[], #[.slice none 0 0, .int .i64 0], []⟩ 8 (by kernel_rfl) (by kernel_rfl) (by kernel_rfl) (by kernel_rfl)) ?_
  intro W base args ds gs before hval0 hW hcnd _
  have hval : ∀ (j : Nat) t v, Try.f6.params[j]? = some t → args[j]? = some v → Value.okWide Try.prog W .any base t v := hval0
  have hW' := hW
  obtain ⟨p, q, hA0, hV, rfl, hfz, hnd⟩ := hW
  have hA : DataW.TrodAll enc Try.prog W 0 (fun _ => true) true Try.f6.params.toList args.toList ds p := hA0
  rw [Try.params6] at hA hval
  obtain ⟨v0, vs0, d0, ds0, p0, q0, hargs, rfl, rfl, h0, r_0⟩ := trodAll_cons hA
  obtain ⟨v1, vs1, d1, ds1, p1, q1, rfl, rfl, rfl, h1, r_1⟩ := trodAll_cons r_0
  obtain ⟨rfl, rfl, rfl⟩ := trodAll_nil r_1
  obtain rfl : args = #[v0, v1] := by cases args; simp_all
  obtain ⟨rfl, rfl⟩ := trodVars_none hV
  obtain ⟨a0, len0, cap0, rfl⟩ := okWide_slice Try.underlying22 (hval 0 22 v0 rfl rfl)
  have k0 := h0
  have lt0 : ∀ x ∈ p0, x.block < W.heap.size := by obtain ⟨m, hm⟩ := k0; exact DataW.trod_lt m _ _ _ hm
  obtain ⟨r0, w0⟩ : ∃ rs : List Rg, rs.length = len0 ∧ RsIn W W.heap.size a0 rs ∧ len0 ≤ 9223372036854775807 := by
    obtain ⟨fuel, hf⟩ := h0
    obtain ⟨hb, rs, h1, h2⟩ := open_rs hf
    exact ⟨rs, h1, h2, hb⟩
  obtain ⟨a1, rfl, rfl, rfl, w1⟩ := open_int Try.underlying3 (hval 1 3 v1 rfl rfl) h1
  clear hA0 hval0
  refine (walk a0 len0 cap0 r0 a1 W w0 w1).mono fun e W' ⟨he, bel⟩ => ?_
  subst he
  exact ⟨_, rfl, _, _, _, [], _, [], hW', trodAll_mk1 (shut_bool Try.underlying4 _), (trodAll_cons_mk (Below.trod laidOut (by kernel_rfl) (of_decide_eq_true (by kernel_rfl)) k0 bel lt0) (trodAll_cons_mk (shut_int Try.underlying3 w1) trodAll_mk0)), rfl, bel.frame _, fun h => by cases h⟩
theorem closed : joinedFacts Try.prog 6 Try.f6 Rows.fnExactRangesHasSpec Rows.fnExactRangesHasRow = true := by
  unfold joinedFacts
  rw [mayEnter_ok, lifts_ok, make_ok]
  kernel_rfl
theorem over : Rows.fnExactRangesHasRow.holds Try.pinned (OpenSpec.ofChange Rows.fnExactRangesHasSpec) :=
  OpenClaim.holds_of_wide 6 Try.f6 rfl rfl rfl rfl rfl rfl rfl ⟨rfl, rfl, rfl, rfl, rfl⟩ rfl rfl rfl rfl rfl (by kernel_rfl) Try.func6 closed
    (of_decide_eq_true (by kernel_rfl)) (by unfold Func.isWrapper; first | (rw [if_pos (by decide +kernel)]; kernel_rfl) | (rw [if_neg (by decide +kernel)]; exact ⟨rfl, rfl⟩))
    (fun os started H enc _ => lifted os started H enc)
theorem proved : Rows.FnExactRangesHasSaid := over
#print axioms proved
end Go.Proofs.Ytclfkkapahdgaaa.fnExactRangesHas
