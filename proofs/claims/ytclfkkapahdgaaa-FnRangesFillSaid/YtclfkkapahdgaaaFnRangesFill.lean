/- Proved: the law FnRangesFill returns true for every input and leaves its arguments as they were: A set with its gaps is a single range. (P18) No condition. -/
import Derived.Test.YtclfkkapahdgaaaRows
import Derived.WalkKit
import Derived.ProofKit
import Derived.OpenShut
import Derived.ShutString
import Derived.ChangeOld
import Derived.Below
import Derived.Test.YtclfkkapahdgaaaHead
import Derived.Test.YtclfkkapahdgaaaRSample
namespace Go.Proofs.Ytclfkkapahdgaaa.fnRangesFill
open Go.ChangeShapes Go.WideShapes Go.ChangeAt Go.RowKit
open Go.ChangeMaps (open_string shut_string)
set_option linter.unusedVariables false

theorem own : ownKnob Try.prog.godebug = none := by kernel_rfl
theorem laidOut : laidOutB Try.prog = true := by kernel_rfl

theorem walk (a0 : Option Addr) (len0 cap0 : Nat) (z0 : List Int) (w : World) (w0 : IsRow .u8 w a0 len0 cap0 z0) :
    Calls Try.prog 14 #[.slice a0 len0 cap0] w fun e w' => e = .returned (.bool true) ∧ Below w.heap.size w w' := by
  have hc := codeArg_of w0
  have hl := hc.1
  have hm := hc.2.1
  have HC := Lib.hid hc
  clear w0 hc
  by_cases h1 : len0 ≤ 1048576
  · have BB0 := Lib.hid (Below.refl w.heap.size w)
    go_enter Try.func14, Try.ntmps14
    go_wp2_with fail
    refine (drawGaps_any a0 len0 cap0 w HC.out).mono ?_
    rintro e v1 ⟨A_L, c_L, l, rfl, hl, hO, hB⟩
    have OL_v1 := Lib.hid hO
    clear hO
    have B_v1 := Lib.hid (drew2 BB0.out hB)
    clear hB BB0
    obtain ⟨qs, HP, hq⟩ := gaps_parts l
    obtain ⟨vb, HV⟩ : ∃ b, Hid (rvalid l = b) := ⟨_, rfl⟩
    go_wp2_with fail
    with_reducible refine (igaps_is OL_v1.out (by omega) HP.out).mono ?_
    rintro e v2 ⟨A_Q, c_Q, rfl, hO, hB⟩
    have OL_v2 := Lib.hid (OL_v1.out.below hB)
    clear OL_v1
    have OQ_v2 := Lib.hid hO
    clear hO
    have B_v2 := Lib.hid (drew2 B_v1.out hB)
    clear hB B_v1
    go_wp2_with fail
    with_reducible refine (sgaps_is OL_v2.out (by omega) HP.out).mono ?_
    rintro e v3 ⟨A_S, c_S, rfl, hO, hB⟩
    have OL_v3 := Lib.hid (OL_v2.out.below hB)
    clear OL_v2
    have OQ_v3 := Lib.hid (OQ_v2.out.below hB)
    clear OQ_v2
    have OS_v3 := Lib.hid hO
    clear hO
    have B_v3 := Lib.hid (drew2 B_v2.out hB)
    clear hB B_v2
    go_wp2_with fail
    with_reducible refine (same_is OQ_v3.out OS_v3.out (by omega) (decide_eq_true rfl)).mono ?_
    rintro e v4 ⟨rfl, hB⟩
    have OL_v4 := Lib.hid (OL_v3.out.below hB)
    clear OL_v3
    have OQ_v4 := Lib.hid (OQ_v3.out.below hB)
    clear OQ_v3
    have OS_v4 := Lib.hid (OS_v3.out.below hB)
    clear OS_v3
    have B_v4 := Lib.hid (drew2 B_v3.out hB)
    clear hB B_v3
    go_wp2_with fail
    with_reducible refine (svalid_is OL_v4.out (by omega) HV.out).mono ?_
    rintro e v5 ⟨rfl, hB⟩
    have OL_v5 := Lib.hid (OL_v4.out.below hB)
    clear OL_v4
    have OQ_v5 := Lib.hid (OQ_v4.out.below hB)
    clear OQ_v4
    have OS_v5 := Lib.hid (OS_v4.out.below hB)
    clear OS_v4
    have B_v5 := Lib.hid (drew2 B_v4.out hB)
    clear hB B_v4
    cases vb with
    | false =>
      go_wp2_with fail
      with_reducible refine (same_is OQ_v5.out OS_v5.out (by omega) (decide_eq_true rfl)).mono ?_
      rintro e v6 ⟨rfl, hB⟩
      have OL_v6 := Lib.hid (OL_v5.out.below hB)
      clear OL_v5
      have OQ_v6 := Lib.hid (OQ_v5.out.below hB)
      clear OQ_v5
      have OS_v6 := Lib.hid (OS_v5.out.below hB)
      clear OS_v5
      have B_v6 := Lib.hid (drew2 B_v5.out hB)
      clear hB B_v5
      go_wp2
      go_ret
      exact ⟨ret_bool (by first | rfl | (simp; done)), B_v6.out⟩
    | true =>
      by_cases hl0 : 0 < l.length
      · have hz : ((l.length : Int) == 0) = false := by rw [beq_eq_false_iff_ne]; omega
        obtain ⟨j, hj⟩ : ∃ j, l.length - 1 = j := ⟨_, rfl⟩
        have hjl : j < l.length := by omega
        have hjz : (j : Int) = (l.length : Int) - 1 := by omega
        obtain ⟨pf, hpf⟩ : ∃ p, l.getD 0 (0, 0) = p := ⟨_, rfl⟩
        obtain ⟨pe, hpe⟩ : ∃ p, l.getD j (0, 0) = p := ⟨_, rfl⟩
        obtain ⟨x0, x1⟩ := pf
        obtain ⟨y0, y1⟩ := pe
        have F0 := Lib.hid hpf
        have F1 := Lib.hid hpe
        have HJ := Lib.hid hj
        have HJZ := Lib.hid hjz
        clear hpf hpe hj hjz
        have UN := Lib.hid (show unionOf l qs = ([(x0, y1)], true) by have h := gaps_fill HV.out hl0; rw [HP.out, HJ.out, F0.out, F1.out] at h; exact h)
        go_wp2_with fail
        with_reducible refine (iunion_is OL_v5.out OQ_v5.out (by omega) (by omega) UN.out).mono ?_
        rintro e v6 ⟨A_U, c_U, rfl, hO, hB⟩
        have OL_v6 := Lib.hid (OL_v5.out.below hB)
        clear OL_v5
        have OQ_v6 := Lib.hid (OQ_v5.out.below hB)
        clear OQ_v5
        have OS_v6 := Lib.hid (OS_v5.out.below hB)
        clear OS_v5
        have OU_v6 := Lib.hid hO
        clear hO
        have B_v6 := Lib.hid (drew2 B_v5.out hB)
        clear hB B_v5
        obtain ⟨gb, hgA, _, _, hcell⟩ := OL_v6.out.cell hl0
        have k0 := (hcell 0 hl0).1
        have k1 := (hcell j hjl).2
        rw [F0.out] at k0
        rw [F1.out] at k1
        simp only [Nat.zero_mul] at k0 k1
        subst hgA
        clear hcell
        obtain ⟨gu, hgU, _, _, hcell⟩ := OU_v6.out.cell (by simp)
        have u0 := (hcell 0 (by simp)).1
        have u1 := (hcell 0 (by simp)).2
        simp only [Nat.zero_mul, Nat.zero_add, List.getD_cons_zero] at u0 u1
        subst hgU
        clear hcell
        have s1 : IntKind.i64.wrap ((l.length : Int) - 1) = (j : Int) := by rw [IntWalk.i64_in ((l.length : Int) - 1) (by omega), HJZ.out]
        have s3 : (0 : Int) < (l.length : Int) := by omega
        have s4 : (j : Int) < (l.length : Int) := by omega
        have b1 : (x0 == x0) = true := by simp
        have b2 : (y1 == y1) = true := by simp
        go_wp2_with fail
        go_quiet (fail)
        go_wp2
        go_ret
        exact ⟨ret_bool (by first | rfl | (simp; done)), below_drewN B_v6.out _⟩
      · have hl1 : l.length = 0 := by omega
        have HL1 := Lib.hid hl1
        have hl2 : ((l.length : Int) == 0) = true := by rw [hl1]; rfl
        clear hl1
        go_wp2_with fail
        with_reducible refine (same_is OQ_v5.out OS_v5.out (by omega) (decide_eq_true rfl)).mono ?_
        rintro e v6 ⟨rfl, hB⟩
        have OL_v6 := Lib.hid (OL_v5.out.below hB)
        clear OL_v5
        have OQ_v6 := Lib.hid (OQ_v5.out.below hB)
        clear OQ_v5
        have OS_v6 := Lib.hid (OS_v5.out.below hB)
        clear OS_v5
        have B_v6 := Lib.hid (drew2 B_v5.out hB)
        clear hB B_v5
        go_wp2
        go_ret
        exact ⟨ret_bool (by first | rfl | (simp; done)), B_v6.out⟩
  · go_enter Try.func14, Try.ntmps14
    go_wp2
    go_ret
    exact ⟨rfl, Below.refl _ _⟩

set_option maxRecDepth 100000 in
theorem lifted (os : Os) (started : os.Started) (H : Type) (enc : TypeId × Value → H) :
    ReturnsInHanded {} Try.checked os 14 .any (Rows.fnRangesFillSpec.pre6 enc Try.prog Try.f14 Rows.fnRangesFillRow.domain false) (Rows.fnRangesFillSpec.post enc Try.prog Try.f14 false true false false) := by
  refine returnsInHanded_of_change (C := Try.checked) own started (by kernel_rfl) Try.func14
    (ChangeSpec.witness6 (enc := enc) (C := Try.checked) false ⟨#[], #[.slice none 0 0], []⟩ 8 (by kernel_rfl) (by kernel_rfl) (by kernel_rfl) (by kernel_rfl)) ?_
  intro W base args ds gs before hval0 hW hcnd _
  have hval : ∀ (j : Nat) t v, Try.f14.params[j]? = some t → args[j]? = some v → Value.okWide Try.prog W .any base t v := hval0
  have hW' := hW
  obtain ⟨p, q, hA0, hV, rfl, hfz, hnd⟩ := hW
  have hA : DataW.TrodAll enc Try.prog W 0 (fun _ => true) true Try.f14.params.toList args.toList ds p := hA0
  rw [Try.params14] at hA hval
  obtain ⟨v0, vs0, d0, ds0, p0, q0, hargs, rfl, rfl, h0, r0⟩ := trodAll_cons hA
  obtain ⟨rfl, rfl, rfl⟩ := trodAll_nil r0
  obtain rfl : args = #[v0] := by cases args; simp_all
  obtain ⟨rfl, rfl⟩ := trodVars_none hV
  obtain ⟨a0, len0, cap0, rfl⟩ := okWide_slice Try.underlying30 (hval 0 30 v0 rfl rfl)
  have k0 := h0
  have lt0 : ∀ x ∈ p0, x.block < W.heap.size := by obtain ⟨m, hm⟩ := k0; exact DataW.trod_lt m _ _ _ hm
  obtain ⟨z0, w0⟩ : ∃ zs, IsRow .u8 W a0 len0 cap0 zs := by
    obtain ⟨fuel, hf⟩ := h0
    rcases open_ints Try.underlying30 Try.underlying5 (by kernel_rfl) hf with ⟨hcs, _⟩ | ⟨x, l, c, zs, hcs, _, hl, hm, hz, _, hcell, hwz⟩
    · simp [Value.cells] at hcs
      obtain ⟨rfl, rfl, rfl⟩ := hcs
      exact ⟨[], .inl ⟨rfl, rfl, rfl, rfl⟩⟩
    · simp [Value.cells] at hcs
      obtain ⟨rfl, rfl, rfl⟩ := hcs
      exact ⟨zs, .inr ⟨_, rfl, hl, hm, by simpa using hz, hcell, hwz⟩⟩
  clear hA0 hval0
  refine (walk a0 len0 cap0 z0 W w0).mono fun e W' ⟨he, bel⟩ => ?_
  subst he
  exact ⟨_, rfl, _, _, _, [], _, [], hW', trodAll_mk1 (shut_bool Try.underlying4 _), (trodAll_cons_mk (Below.trod laidOut (by kernel_rfl) (of_decide_eq_true (by kernel_rfl)) k0 bel lt0) trodAll_mk0), rfl, bel.frame _, fun h => by cases h⟩

theorem closed : joinedFacts Try.prog 14 Try.f14 Rows.fnRangesFillSpec Rows.fnRangesFillRow = true := by
  unfold joinedFacts
  rw [mayEnter_ok, lifts_ok, make_ok]
  kernel_rfl

theorem over : Rows.fnRangesFillRow.holds Try.pinned (OpenSpec.ofChange Rows.fnRangesFillSpec) :=
  OpenClaim.holds_of_wide 14 Try.f14 rfl rfl rfl rfl rfl rfl rfl ⟨rfl, rfl, rfl, rfl, rfl⟩ rfl rfl rfl rfl rfl (by kernel_rfl) Try.func14 closed
    (of_decide_eq_true (by kernel_rfl)) (by unfold Func.isWrapper; first | (rw [if_pos (by decide +kernel)]; kernel_rfl) | (rw [if_neg (by decide +kernel)]; exact ⟨rfl, rfl⟩))
    (fun os started H enc _ => lifted os started H enc)

/-- ████ THE STATEMENT ████ -/
theorem proved : Rows.FnRangesFillSaid := over
#print axioms proved
end Go.Proofs.Ytclfkkapahdgaaa.fnRangesFill
