/- Proved: the law FnRangesFull returns true for every input and leaves its arguments as they were: Only full sets reject numbers. (P23) No condition. -/
import Derived.Test.YtclfkkapahdgaaaRows
import Derived.WalkKit
import Derived.ProofKit
import Derived.OpenShut
import Derived.ShutString
import Derived.ChangeOld
import Derived.Below
import Derived.Test.YtclfkkapahdgaaaHead
import Derived.Test.YtclfkkapahdgaaaRSample
namespace Go.Proofs.Ytclfkkapahdgaaa.fnRangesFull
open Go.ChangeShapes Go.WideShapes Go.ChangeAt Go.RowKit
open Go.ChangeMaps (open_string shut_string)
set_option linter.unusedVariables false

theorem own : ownKnob Try.prog.godebug = none := by kernel_rfl
theorem laidOut : laidOutB Try.prog = true := by kernel_rfl

theorem walk (a0 : Option Addr) (len0 cap0 : Nat) (z0 : List Int) (w : World) (w0 : IsRow .u8 w a0 len0 cap0 z0) :
    Calls Try.prog 20 #[.slice a0 len0 cap0] w fun e w' => e = .returned (.bool true) ∧ Below w.heap.size w w' := by
  have hc := codeArg_of w0
  have hl := hc.1
  have hm := hc.2.1
  have HC := Lib.hid hc
  clear w0 hc
  by_cases h1 : len0 ≤ 1048576
  · have BB0 := Lib.hid (Below.refl w.heap.size w)
    go_enter Try.func20, Try.ntmps20
    go_wp2_with fail
    refine (drawAdd_any a0 len0 cap0 w HC.out).mono ?_
    rintro e v1 ⟨A_L, c_L, l, lo, hi, rfl, hl, hlo0, hlo1, hhi0, hhi1, hO, hB⟩
    have OL_v1 := Lib.hid hO
    clear hO
    have B_v1 := Lib.hid (drew2 BB0.out hB)
    clear hB BB0
    obtain ⟨qs, one, HP, hq⟩ := add_parts l lo hi
    obtain ⟨ps, two, HR, hp⟩ := rem_parts l lo hi
    have hne : (one != one) = false := by cases one <;> rfl
    have hne2 : (two != two) = false := by cases two <;> rfl
    obtain ⟨vb, HV⟩ : ∃ b, Hid (rvalid l = b) := ⟨_, rfl⟩
    go_wp2_with fail
    with_reducible refine (iadd_is OL_v1.out (by omega) HP.out).mono ?_
    rintro e v2 ⟨A_Q, c_Q, rfl, hO, hB⟩
    have OL_v2 := Lib.hid (OL_v1.out.below hB)
    clear OL_v1
    have OQ_v2 := Lib.hid hO
    clear hO
    have B_v2 := Lib.hid (drew2 B_v1.out hB)
    clear hB B_v1
    go_wp2_with fail
    with_reducible refine (irem_is OL_v2.out (by omega) HR.out).mono ?_
    rintro e v3 ⟨A_P, c_P, rfl, hO, hB⟩
    have OL_v3 := Lib.hid (OL_v2.out.below hB)
    clear OL_v2
    have OQ_v3 := Lib.hid (OQ_v2.out.below hB)
    clear OQ_v2
    have OP_v3 := Lib.hid hO
    clear hO
    have B_v3 := Lib.hid (drew2 B_v2.out hB)
    clear hB B_v2
    go_wp2_with fail
    with_reducible refine (sadd_is OL_v3.out (by omega) HP.out).mono ?_
    rintro e v4 ⟨A_S, c_S, rfl, hO, hB⟩
    have OL_v4 := Lib.hid (OL_v3.out.below hB)
    clear OL_v3
    have OQ_v4 := Lib.hid (OQ_v3.out.below hB)
    clear OQ_v3
    have OP_v4 := Lib.hid (OP_v3.out.below hB)
    clear OP_v3
    have OS_v4 := Lib.hid hO
    clear hO
    have B_v4 := Lib.hid (drew2 B_v3.out hB)
    clear hB B_v3
    go_wp2_with fail
    with_reducible refine (srem_is OL_v4.out (by omega) HR.out).mono ?_
    rintro e v5 ⟨A_T, c_T, rfl, hO, hB⟩
    have OL_v5 := Lib.hid (OL_v4.out.below hB)
    clear OL_v4
    have OQ_v5 := Lib.hid (OQ_v4.out.below hB)
    clear OQ_v4
    have OP_v5 := Lib.hid (OP_v4.out.below hB)
    clear OP_v4
    have OS_v5 := Lib.hid (OS_v4.out.below hB)
    clear OS_v4
    have OT_v5 := Lib.hid hO
    clear hO
    have B_v5 := Lib.hid (drew2 B_v4.out hB)
    clear hB B_v4
    go_wp2_with fail
    with_reducible refine (same_is OQ_v5.out OS_v5.out (by omega) (decide_eq_true rfl)).mono ?_
    rintro e v6 ⟨rfl, hB⟩
    have OL_v6 := Lib.hid (OL_v5.out.below hB)
    clear OL_v5
    have OQ_v6 := Lib.hid (OQ_v5.out.below hB)
    clear OQ_v5
    have OP_v6 := Lib.hid (OP_v5.out.below hB)
    clear OP_v5
    have OS_v6 := Lib.hid (OS_v5.out.below hB)
    clear OS_v5
    have OT_v6 := Lib.hid (OT_v5.out.below hB)
    clear OT_v5
    have B_v6 := Lib.hid (drew2 B_v5.out hB)
    clear hB B_v5
    go_wp2_with fail
    with_reducible refine (same_is OP_v6.out OT_v6.out (by omega) (decide_eq_true rfl)).mono ?_
    rintro e v7 ⟨rfl, hB⟩
    have OL_v7 := Lib.hid (OL_v6.out.below hB)
    clear OL_v6
    have OQ_v7 := Lib.hid (OQ_v6.out.below hB)
    clear OQ_v6
    have OP_v7 := Lib.hid (OP_v6.out.below hB)
    clear OP_v6
    have OS_v7 := Lib.hid (OS_v6.out.below hB)
    clear OS_v6
    have OT_v7 := Lib.hid (OT_v6.out.below hB)
    clear OT_v6
    have B_v7 := Lib.hid (drew2 B_v6.out hB)
    clear hB B_v6
    go_wp2_with fail
    with_reducible refine (svalid_is OL_v7.out (by omega) HV.out).mono ?_
    rintro e v8 ⟨rfl, hB⟩
    have OL_v8 := Lib.hid (OL_v7.out.below hB)
    clear OL_v7
    have OQ_v8 := Lib.hid (OQ_v7.out.below hB)
    clear OQ_v7
    have OP_v8 := Lib.hid (OP_v7.out.below hB)
    clear OP_v7
    have OS_v8 := Lib.hid (OS_v7.out.below hB)
    clear OS_v7
    have OT_v8 := Lib.hid (OT_v7.out.below hB)
    clear OT_v7
    have B_v8 := Lib.hid (drew2 B_v7.out hB)
    clear hB B_v7
    cases vb with
    | false =>
      have e1 := add_not (by rw [HV.out]; rfl) HP.out
      have e2 := rem_not (by rw [HV.out]; rfl) HR.out
      subst e1 e2
      go_wp2
      go_ret
      exact ⟨ret_bool (by first | rfl | (simp; done)), B_v8.out⟩
    | true =>
      by_cases hs : 0 ≤ lo ∧ lo ≤ hi ∧ hi ≤ 999
      · obtain ⟨q1, q2, q3⟩ := hs
        have SPN := Lib.hid ((span_iff lo hi).2 ⟨q1, q2, q3⟩)
        have f1 := Lib.hid (fun (h : one = false) => add_full HV.out SPN.out (h ▸ HP.out))
        have f2 := Lib.hid (fun (h : two = false) => rem_full HV.out SPN.out (h ▸ HR.out))
        have L16 := Lib.hid (fun (h : l.length = 16) => (show ((l.length : Int) == 16) = true by rw [h]; rfl))
        cases one with
        | false =>
          have t1 := L16.out (f1.out rfl)
          cases two
          · go_wp2
            go_ret
            exact ⟨ret_bool (by first | rfl | (simp; done)), B_v8.out⟩
          · go_wp2
            go_ret
            exact ⟨ret_bool (by first | rfl | (simp; done)), B_v8.out⟩
        | true =>
          cases two with
          | false =>
            have t1 := L16.out (f2.out rfl)
            go_wp2
            go_ret
            exact ⟨ret_bool (by first | rfl | (simp; done)), B_v8.out⟩
          | true =>
            go_wp2
            go_ret
            exact ⟨ret_bool (by first | rfl | (simp; done)), B_v8.out⟩
      · have SPN : span lo hi = false := by rw [← Bool.not_eq_true, span_iff]; exact hs
        have e1 := add_not (by rw [SPN, Bool.and_false]) HP.out
        have e2 := rem_not (by rw [SPN, Bool.and_false]) HR.out
        subst e1 e2
        clear SPN
        by_cases q1 : lo < 0
        · go_wp2
          go_ret
          exact ⟨ret_bool (by first | rfl | (simp; done)), B_v8.out⟩
        · by_cases q2 : hi < lo
          · go_wp2
            go_ret
            exact ⟨ret_bool (by first | rfl | (simp; done)), B_v8.out⟩
          · have q3 : 999 < hi := by omega
            go_wp2
            go_ret
            exact ⟨ret_bool (by first | rfl | (simp; done)), B_v8.out⟩
  · go_enter Try.func20, Try.ntmps20
    go_wp2
    go_ret
    exact ⟨rfl, Below.refl _ _⟩

set_option maxRecDepth 100000 in
theorem lifted (os : Os) (started : os.Started) (H : Type) (enc : TypeId × Value → H) :
    ReturnsInHanded {} Try.checked os 20 .any (Rows.fnRangesFullSpec.pre6 enc Try.prog Try.f20 Rows.fnRangesFullRow.domain false) (Rows.fnRangesFullSpec.post enc Try.prog Try.f20 false true false false) := by
  refine returnsInHanded_of_change (C := Try.checked) own started (by kernel_rfl) Try.func20
    (ChangeSpec.witness6 (enc := enc) (C := Try.checked) false ⟨#[], #[.slice none 0 0], []⟩ 8 (by kernel_rfl) (by kernel_rfl) (by kernel_rfl) (by kernel_rfl)) ?_
  intro W base args ds gs before hval0 hW hcnd _
  have hval : ∀ (j : Nat) t v, Try.f20.params[j]? = some t → args[j]? = some v → Value.okWide Try.prog W .any base t v := hval0
  have hW' := hW
  obtain ⟨p, q, hA0, hV, rfl, hfz, hnd⟩ := hW
  have hA : DataW.TrodAll enc Try.prog W 0 (fun _ => true) true Try.f20.params.toList args.toList ds p := hA0
  rw [Try.params20] at hA hval
  obtain ⟨v0, vs0, d0, ds0, p0, q0, hargs, rfl, rfl, h0, r0⟩ := trodAll_cons hA
  obtain ⟨rfl, rfl, rfl⟩ := trodAll_nil r0
  obtain rfl : args = #[v0] := by cases args; simp_all
  obtain ⟨rfl, rfl⟩ := trodVars_none hV
  obtain ⟨a0, len0, cap0, rfl⟩ := okWide_slice Try.underlying30 (hval 0 30 v0 rfl rfl)
  have k0 := h0
  have lt0 : ∀ x ∈ p0, x.block < W.heap.size := by obtain ⟨m, hm⟩ := k0; exact DataW.trod_lt m _ _ _ hm
  obtain ⟨z0, w0⟩ : ∃ zs, IsRow .u8 W a0 len0 cap0 zs := by
    obtain ⟨fuel, hf⟩ := h0
    rcases open_ints Try.underlying30 Try.underlying5 (by kernel_rfl) hf with ⟨hcs, _⟩ | ⟨x, l, c, zs, hcs, _, hl, hm, hz, _, hcell, hwz⟩
    · simp [Value.cells] at hcs
      obtain ⟨rfl, rfl, rfl⟩ := hcs
      exact ⟨[], .inl ⟨rfl, rfl, rfl, rfl⟩⟩
    · simp [Value.cells] at hcs
      obtain ⟨rfl, rfl, rfl⟩ := hcs
      exact ⟨zs, .inr ⟨_, rfl, hl, hm, by simpa using hz, hcell, hwz⟩⟩
  clear hA0 hval0
  refine (walk a0 len0 cap0 z0 W w0).mono fun e W' ⟨he, bel⟩ => ?_
  subst he
  exact ⟨_, rfl, _, _, _, [], _, [], hW', trodAll_mk1 (shut_bool Try.underlying4 _), (trodAll_cons_mk (Below.trod laidOut (by kernel_rfl) (of_decide_eq_true (by kernel_rfl)) k0 bel lt0) trodAll_mk0), rfl, bel.frame _, fun h => by cases h⟩

theorem closed : joinedFacts Try.prog 20 Try.f20 Rows.fnRangesFullSpec Rows.fnRangesFullRow = true := by
  unfold joinedFacts
  rw [mayEnter_ok, lifts_ok, make_ok]
  kernel_rfl

theorem over : Rows.fnRangesFullRow.holds Try.pinned (OpenSpec.ofChange Rows.fnRangesFullSpec) :=
  OpenClaim.holds_of_wide 20 Try.f20 rfl rfl rfl rfl rfl rfl rfl ⟨rfl, rfl, rfl, rfl, rfl⟩ rfl rfl rfl rfl rfl (by kernel_rfl) Try.func20 closed
    (of_decide_eq_true (by kernel_rfl)) (by unfold Func.isWrapper; first | (rw [if_pos (by decide +kernel)]; kernel_rfl) | (rw [if_neg (by decide +kernel)]; exact ⟨rfl, rfl⟩))
    (fun os started H enc _ => lifted os started H enc)

/-- ████ THE STATEMENT ████ -/
theorem proved : Rows.FnRangesFullSaid := over
#print axioms proved
end Go.Proofs.Ytclfkkapahdgaaa.fnRangesFull
