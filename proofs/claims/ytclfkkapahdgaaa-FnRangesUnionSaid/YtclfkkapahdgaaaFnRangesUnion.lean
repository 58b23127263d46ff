/- Proved: the law FnRangesUnion returns true for every input and leaves its arguments as they were: A union contains exactly the numbers of both sets. (P15) No condition. -/
import Derived.Test.YtclfkkapahdgaaaRows
import Derived.WalkKit
import Derived.ProofKit
import Derived.OpenShut
import Derived.ShutString
import Derived.ChangeOld
import Derived.Below
import Derived.Test.YtclfkkapahdgaaaHead
import Derived.Test.YtclfkkapahdgaaaRSample
namespace Go.Proofs.Ytclfkkapahdgaaa.fnRangesUnion
open Go.ChangeShapes Go.WideShapes Go.ChangeAt Go.RowKit
open Go.ChangeMaps (open_string shut_string)
set_option linter.unusedVariables false

theorem own : ownKnob Try.prog.godebug = none := by kernel_rfl
theorem laidOut : laidOutB Try.prog = true := by kernel_rfl

theorem walk (a0 : Option Addr) (len0 cap0 : Nat) (z0 : List Int) (w : World) (w0 : IsRow .u8 w a0 len0 cap0 z0) :
    Calls Try.prog 19 #[.slice a0 len0 cap0] w fun e w' => e = .returned (.bool true) ∧ Below w.heap.size w w' := by
  have hc := codeArg_of w0
  have hl := hc.1
  have hm := hc.2.1
  have HC := Lib.hid hc
  clear w0 hc
  by_cases h1 : len0 ≤ 1048576
  · have BB0 := Lib.hid (Below.refl w.heap.size w)
    go_enter Try.func19, Try.ntmps19
    go_wp2_with fail
    refine (drawUnion_any a0 len0 cap0 w HC.out).mono ?_
    rintro e v1 ⟨A_L, c_L, l, A_T, c_T, t, rfl, hl, ht, hO, hO2, hB⟩
    have OL_v1 := Lib.hid hO
    clear hO
    have OT_v1 := Lib.hid hO2
    clear hO2
    have B_v1 := Lib.hid (drew2 BB0.out hB)
    clear hB BB0
    obtain ⟨qs, ok, HP, hq⟩ := union_parts l t
    have hne : (ok != ok) = false := by cases ok <;> rfl
    have heq : (ok == ok) = true := by cases ok <;> rfl
    go_wp2_with fail
    with_reducible refine (iunion_is OL_v1.out OT_v1.out (by omega) (by omega) HP.out).mono ?_
    rintro e v2 ⟨A_Q, c_Q, rfl, hO, hB⟩
    have OL_v2 := Lib.hid (OL_v1.out.below hB)
    clear OL_v1
    have OT_v2 := Lib.hid (OT_v1.out.below hB)
    clear OT_v1
    have OQ_v2 := Lib.hid hO
    clear hO
    have B_v2 := Lib.hid (drew2 B_v1.out hB)
    clear hB B_v1
    go_wp2_with fail
    with_reducible refine (sunion_is OL_v2.out OT_v2.out (by omega) (by omega) HP.out).mono ?_
    rintro e v3 ⟨A_S, c_S, rfl, hO, hB⟩
    have OL_v3 := Lib.hid (OL_v2.out.below hB)
    clear OL_v2
    have OT_v3 := Lib.hid (OT_v2.out.below hB)
    clear OT_v2
    have OQ_v3 := Lib.hid (OQ_v2.out.below hB)
    clear OQ_v2
    have OS_v3 := Lib.hid hO
    clear hO
    have B_v3 := Lib.hid (drew2 B_v2.out hB)
    clear hB B_v2
    cases ok with
    | false =>
      go_wp2_with fail
      with_reducible refine (same_is OQ_v3.out OS_v3.out (by omega) (decide_eq_true rfl)).mono ?_
      rintro e v4 ⟨rfl, hB⟩
      have OL_v4 := Lib.hid (OL_v3.out.below hB)
      clear OL_v3
      have OT_v4 := Lib.hid (OT_v3.out.below hB)
      clear OT_v3
      have OQ_v4 := Lib.hid (OQ_v3.out.below hB)
      clear OQ_v3
      have OS_v4 := Lib.hid (OS_v3.out.below hB)
      clear OS_v3
      have B_v4 := Lib.hid (drew2 B_v3.out hB)
      clear hB B_v3
      go_wp2_with fail
      with_reducible refine (same_is OQ_v4.out OS_v4.out (by omega) (decide_eq_true rfl)).mono ?_
      rintro e v5 ⟨rfl, hB⟩
      have OL_v5 := Lib.hid (OL_v4.out.below hB)
      clear OL_v4
      have OT_v5 := Lib.hid (OT_v4.out.below hB)
      clear OT_v4
      have OQ_v5 := Lib.hid (OQ_v4.out.below hB)
      clear OQ_v4
      have OS_v5 := Lib.hid (OS_v4.out.below hB)
      clear OS_v4
      have B_v5 := Lib.hid (drew2 B_v4.out hB)
      clear hB B_v4
      go_wp2
      go_ret
      exact ⟨ret_bool (by first | rfl | (simp; done)), B_v5.out⟩
    | true =>
      go_wp2_with fail
      with_reducible refine (same_is OQ_v3.out OS_v3.out (by omega) (decide_eq_true rfl)).mono ?_
      rintro e v4 ⟨rfl, hB⟩
      have OL_v4 := Lib.hid (OL_v3.out.below hB)
      clear OL_v3
      have OT_v4 := Lib.hid (OT_v3.out.below hB)
      clear OT_v3
      have OQ_v4 := Lib.hid (OQ_v3.out.below hB)
      clear OQ_v3
      have OS_v4 := Lib.hid (OS_v3.out.below hB)
      clear OS_v3
      have B_v4 := Lib.hid (drew2 B_v3.out hB)
      clear hB B_v3
      have YES := Lib.hid (unionOf_yes HP.out)
      go_wp2_with fail
      refine (sample_any v4).mono ?_
      rintro e v5 ⟨A_N, c_N, ns, rfl, hns, hN, hB⟩
      have ON0 := Lib.hid hN
      clear hN
      have OL_v5 := Lib.hid (OL_v4.out.below hB)
      clear OL_v4
      have OT_v5 := Lib.hid (OT_v4.out.below hB)
      clear OT_v4
      have OQ_v5 := Lib.hid (OQ_v4.out.below hB)
      clear OQ_v4
      have OS_v5 := Lib.hid (OS_v4.out.below hB)
      clear OS_v4
      have B_v5 := Lib.hid (drew2 B_v4.out hB)
      clear hB B_v4
      go_wp2_with fail
      go_loopw [54] (fun i wr => ∃ k : Nat, k ≤ ns.length ∧ i = .int .i64 k ∧ Hid (Below v5.heap.size v5 wr)) (fun i _ => ns.length - (intOf i).toNat)
      case atStart => exact ⟨0, Nat.zero_le _, rfl, Below.refl _ _⟩
      case round =>
        obtain ⟨k, hk, rfl, hBr⟩ := hrel
        have RL := Lib.hid (OL_v5.out.below hBr.out)
        have RT := Lib.hid (OT_v5.out.below hBr.out)
        have RQ := Lib.hid (OQ_v5.out.below hBr.out)
        have RS := Lib.hid (OS_v5.out.below hBr.out)
        have BR := Lib.hid (drew2 B_v5.out hBr.out)
        by_cases hlt : k < ns.length
        · obtain ⟨b, rfl, _, hbl, hc⟩ := ON0.out.cell (by omega)
          have g0 := hc k hlt
          have g1 := (hBr.out.cell (p := ⟨b, k, none⟩) hbl).trans g0
          clear hc g0
          generalize ns.getD k 0 = n at g1
          have BL0 := Lib.hid (Below.refl wr.heap.size wr)
          clear BR
          obtain ⟨bl, HL⟩ : ∃ b, Hid ((rvalid l && rhas l n) = b) := ⟨_, rfl⟩
          obtain ⟨bt, HT⟩ : ∃ b, Hid ((rvalid t && rhas t n) = b) := ⟨_, rfl⟩
          obtain ⟨bq, HQ⟩ : ∃ b, Hid ((rvalid qs && rhas qs n) = b) := ⟨_, rfl⟩
          have EQ := Lib.hid (show bq = (bl || bt) by rw [← HQ.out, ← HL.out, ← HT.out, YES.out.2.2.2, YES.out.1, YES.out.2.1, union_has HP.out]; rfl)
          go_wp2_with fail
          with_reducible refine (ihas_is n RQ.out (by omega) HQ.out).mono ?_
          rintro e v6 ⟨rfl, hB⟩
          have OL_v6 := Lib.hid (RL.out.below hB)
          clear RL
          have OT_v6 := Lib.hid (RT.out.below hB)
          clear RT
          have OQ_v6 := Lib.hid (RQ.out.below hB)
          clear RQ
          have OS_v6 := Lib.hid (RS.out.below hB)
          clear RS
          have B_v6 := Lib.hid (drew2 BL0.out hB)
          clear hB BL0
          go_wp2_with fail
          with_reducible refine (ihas_is n OL_v6.out (by omega) HL.out).mono ?_
          rintro e v7 ⟨rfl, hB⟩
          have OL_v7 := Lib.hid (OL_v6.out.below hB)
          clear OL_v6
          have OT_v7 := Lib.hid (OT_v6.out.below hB)
          clear OT_v6
          have OQ_v7 := Lib.hid (OQ_v6.out.below hB)
          clear OQ_v6
          have OS_v7 := Lib.hid (OS_v6.out.below hB)
          clear OS_v6
          have B_v7 := Lib.hid (drew2 B_v6.out hB)
          clear hB B_v6
          cases bl with
          | false =>
            go_wp2_with fail
            with_reducible refine (ihas_is n OT_v7.out (by omega) HT.out).mono ?_
            rintro e v8 ⟨rfl, hB⟩
            have OL_v8 := Lib.hid (OL_v7.out.below hB)
            clear OL_v7
            have OT_v8 := Lib.hid (OT_v7.out.below hB)
            clear OT_v7
            have OQ_v8 := Lib.hid (OQ_v7.out.below hB)
            clear OQ_v7
            have OS_v8 := Lib.hid (OS_v7.out.below hB)
            clear OS_v7
            have B_v8 := Lib.hid (drew2 B_v7.out hB)
            clear hB B_v7
            have eq : bq = bt := EQ.out
            subst eq
            cases bq
            all_goals
              go_wp2_with fail
              go_roundw
              case rel => exact ⟨k + 1, by omega, by go_num, drew2 hBr.out B_v8.out⟩
              case measure => simp [intOf]; omega
          | true =>
            have eq : bq = true := EQ.out
            subst eq
            go_wp2_with fail
            go_roundw
            case rel => exact ⟨k + 1, by omega, by go_num, drew2 hBr.out B_v7.out⟩
            case measure => simp [intOf]; omega
        · go_wp2_with fail
          with_reducible refine (ivalid_is RQ.out (by omega) YES.out.2.2.2).mono ?_
          rintro e v6 ⟨rfl, hB⟩
          have OL_v6 := Lib.hid (RL.out.below hB)
          clear RL
          have OT_v6 := Lib.hid (RT.out.below hB)
          clear RT
          have OQ_v6 := Lib.hid (RQ.out.below hB)
          clear RQ
          have OS_v6 := Lib.hid (RS.out.below hB)
          clear RS
          have B_v6 := Lib.hid (drew2 BR.out hB)
          clear hB BR
          go_wp2
          go_ret
          exact ⟨ret_bool (by first | rfl | (simp; done)), B_v6.out⟩
  · go_enter Try.func19, Try.ntmps19
    go_wp2
    go_ret
    exact ⟨rfl, Below.refl _ _⟩

set_option maxRecDepth 100000 in
theorem lifted (os : Os) (started : os.Started) (H : Type) (enc : TypeId × Value → H) :
    ReturnsInHanded {} Try.checked os 19 .any (Rows.fnRangesUnionSpec.pre6 enc Try.prog Try.f19 Rows.fnRangesUnionRow.domain false) (Rows.fnRangesUnionSpec.post enc Try.prog Try.f19 false true false false) := by
  refine returnsInHanded_of_change (C := Try.checked) own started (by kernel_rfl) Try.func19
    (ChangeSpec.witness6 (enc := enc) (C := Try.checked) false ⟨#[], #[.slice none 0 0], []⟩ 8 (by kernel_rfl) (by kernel_rfl) (by kernel_rfl) (by kernel_rfl)) ?_
  intro W base args ds gs before hval0 hW hcnd _
  have hval : ∀ (j : Nat) t v, Try.f19.params[j]? = some t → args[j]? = some v → Value.okWide Try.prog W .any base t v := hval0
  have hW' := hW
  obtain ⟨p, q, hA0, hV, rfl, hfz, hnd⟩ := hW
  have hA : DataW.TrodAll enc Try.prog W 0 (fun _ => true) true Try.f19.params.toList args.toList ds p := hA0
  rw [Try.params19] at hA hval
  obtain ⟨v0, vs0, d0, ds0, p0, q0, hargs, rfl, rfl, h0, r0⟩ := trodAll_cons hA
  obtain ⟨rfl, rfl, rfl⟩ := trodAll_nil r0
  obtain rfl : args = #[v0] := by cases args; simp_all
  obtain ⟨rfl, rfl⟩ := trodVars_none hV
  obtain ⟨a0, len0, cap0, rfl⟩ := okWide_slice Try.underlying30 (hval 0 30 v0 rfl rfl)
  have k0 := h0
  have lt0 : ∀ x ∈ p0, x.block < W.heap.size := by obtain ⟨m, hm⟩ := k0; exact DataW.trod_lt m _ _ _ hm
  obtain ⟨z0, w0⟩ : ∃ zs, IsRow .u8 W a0 len0 cap0 zs := by
    obtain ⟨fuel, hf⟩ := h0
    rcases open_ints Try.underlying30 Try.underlying5 (by kernel_rfl) hf with ⟨hcs, _⟩ | ⟨x, l, c, zs, hcs, _, hl, hm, hz, _, hcell, hwz⟩
    · simp [Value.cells] at hcs
      obtain ⟨rfl, rfl, rfl⟩ := hcs
      exact ⟨[], .inl ⟨rfl, rfl, rfl, rfl⟩⟩
    · simp [Value.cells] at hcs
      obtain ⟨rfl, rfl, rfl⟩ := hcs
      exact ⟨zs, .inr ⟨_, rfl, hl, hm, by simpa using hz, hcell, hwz⟩⟩
  clear hA0 hval0
  refine (walk a0 len0 cap0 z0 W w0).mono fun e W' ⟨he, bel⟩ => ?_
  subst he
  exact ⟨_, rfl, _, _, _, [], _, [], hW', trodAll_mk1 (shut_bool Try.underlying4 _), (trodAll_cons_mk (Below.trod laidOut (by kernel_rfl) (of_decide_eq_true (by kernel_rfl)) k0 bel lt0) trodAll_mk0), rfl, bel.frame _, fun h => by cases h⟩

theorem closed : joinedFacts Try.prog 19 Try.f19 Rows.fnRangesUnionSpec Rows.fnRangesUnionRow = true := by
  unfold joinedFacts
  rw [mayEnter_ok, lifts_ok, make_ok]
  kernel_rfl

theorem over : Rows.fnRangesUnionRow.holds Try.pinned (OpenSpec.ofChange Rows.fnRangesUnionSpec) :=
  OpenClaim.holds_of_wide 19 Try.f19 rfl rfl rfl rfl rfl rfl rfl ⟨rfl, rfl, rfl, rfl, rfl⟩ rfl rfl rfl rfl rfl (by kernel_rfl) Try.func19 closed
    (of_decide_eq_true (by kernel_rfl)) (by unfold Func.isWrapper; first | (rw [if_pos (by decide +kernel)]; kernel_rfl) | (rw [if_neg (by decide +kernel)]; exact ⟨rfl, rfl⟩))
    (fun os started H enc _ => lifted os started H enc)

/-- ████ THE STATEMENT ████ -/
theorem proved : Rows.FnRangesUnionSaid := over
#print axioms proved
end Go.Proofs.Ytclfkkapahdgaaa.fnRangesUnion
