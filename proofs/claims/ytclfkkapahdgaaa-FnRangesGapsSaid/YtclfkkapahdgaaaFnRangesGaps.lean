/- Proved: the law FnRangesGaps returns true for every input and leaves its arguments as they were: Gaps are the missing numbers. (P17) No condition. -/
import Derived.Test.YtclfkkapahdgaaaRows
import Derived.WalkKit
import Derived.ProofKit
import Derived.OpenShut
import Derived.ShutString
import Derived.ChangeOld
import Derived.Below
import Derived.Test.YtclfkkapahdgaaaHead
import Derived.Test.YtclfkkapahdgaaaRSample
namespace Go.Proofs.Ytclfkkapahdgaaa.fnRangesGaps
open Go.ChangeShapes Go.WideShapes Go.ChangeAt Go.RowKit
open Go.ChangeMaps (open_string shut_string)
set_option linter.unusedVariables false

theorem own : ownKnob Try.prog.godebug = none := by kernel_rfl
theorem laidOut : laidOutB Try.prog = true := by kernel_rfl

theorem walk (a0 : Option Addr) (len0 cap0 : Nat) (z0 : List Int) (w : World) (w0 : IsRow .u8 w a0 len0 cap0 z0) :
    Calls Try.prog 10 #[.slice a0 len0 cap0] w fun e w' => e = .returned (.bool true) ∧ Below w.heap.size w w' := by
  have hc := codeArg_of w0
  have hl := hc.1
  have hm := hc.2.1
  have HC := Lib.hid hc
  clear w0 hc
  by_cases h1 : len0 ≤ 1048576
  · have BB0 := Lib.hid (Below.refl w.heap.size w)
    go_enter Try.func10, Try.ntmps10
    go_wp2_with fail
    refine (drawGaps_any a0 len0 cap0 w HC.out).mono ?_
    rintro e v1 ⟨A_L, c_L, l, rfl, hl, hO, hB⟩
    have OL_v1 := Lib.hid hO
    clear hO
    have B_v1 := Lib.hid (drew2 BB0.out hB)
    clear hB BB0
    obtain ⟨qs, HP, hq⟩ := gaps_parts l
    obtain ⟨vb, HV⟩ : ∃ b, Hid (rvalid l = b) := ⟨_, rfl⟩
    go_wp2_with fail
    with_reducible refine (igaps_is OL_v1.out (by omega) HP.out).mono ?_
    rintro e v2 ⟨A_Q, c_Q, rfl, hO, hB⟩
    have OL_v2 := Lib.hid (OL_v1.out.below hB)
    clear OL_v1
    have OQ_v2 := Lib.hid hO
    clear hO
    have B_v2 := Lib.hid (drew2 B_v1.out hB)
    clear hB B_v1
    go_wp2_with fail
    with_reducible refine (sgaps_is OL_v2.out (by omega) HP.out).mono ?_
    rintro e v3 ⟨A_S, c_S, rfl, hO, hB⟩
    have OL_v3 := Lib.hid (OL_v2.out.below hB)
    clear OL_v2
    have OQ_v3 := Lib.hid (OQ_v2.out.below hB)
    clear OQ_v2
    have OS_v3 := Lib.hid hO
    clear hO
    have B_v3 := Lib.hid (drew2 B_v2.out hB)
    clear hB B_v2
    go_wp2_with fail
    with_reducible refine (same_is OQ_v3.out OS_v3.out (by omega) (decide_eq_true rfl)).mono ?_
    rintro e v4 ⟨rfl, hB⟩
    have OL_v4 := Lib.hid (OL_v3.out.below hB)
    clear OL_v3
    have OQ_v4 := Lib.hid (OQ_v3.out.below hB)
    clear OQ_v3
    have OS_v4 := Lib.hid (OS_v3.out.below hB)
    clear OS_v3
    have B_v4 := Lib.hid (drew2 B_v3.out hB)
    clear hB B_v3
    go_wp2_with fail
    with_reducible refine (svalid_is OL_v4.out (by omega) HV.out).mono ?_
    rintro e v5 ⟨rfl, hB⟩
    have OL_v5 := Lib.hid (OL_v4.out.below hB)
    clear OL_v4
    have OQ_v5 := Lib.hid (OQ_v4.out.below hB)
    clear OQ_v4
    have OS_v5 := Lib.hid (OS_v4.out.below hB)
    clear OS_v4
    have B_v5 := Lib.hid (drew2 B_v4.out hB)
    clear hB B_v4
    cases vb with
    | false =>
      go_wp2_with fail
      with_reducible refine (same_is OQ_v5.out OS_v5.out (by omega) (decide_eq_true rfl)).mono ?_
      rintro e v6 ⟨rfl, hB⟩
      have OL_v6 := Lib.hid (OL_v5.out.below hB)
      clear OL_v5
      have OQ_v6 := Lib.hid (OQ_v5.out.below hB)
      clear OQ_v5
      have OS_v6 := Lib.hid (OS_v5.out.below hB)
      clear OS_v5
      have B_v6 := Lib.hid (drew2 B_v5.out hB)
      clear hB B_v5
      go_wp2
      go_ret
      exact ⟨ret_bool (by first | rfl | (simp; done)), B_v6.out⟩
    | true =>
      by_cases hl0 : 0 < l.length
      · have hz : ((l.length : Int) == 0) = false := by rw [beq_eq_false_iff_ne]; omega
        obtain ⟨j, hj⟩ : ∃ j, l.length - 1 = j := ⟨_, rfl⟩
        have hjl : j < l.length := by omega
        have hjz : (j : Int) = (l.length : Int) - 1 := by omega
        obtain ⟨pf, hpf⟩ : ∃ p, l.getD 0 (0, 0) = p := ⟨_, rfl⟩
        obtain ⟨pe, hpe⟩ : ∃ p, l.getD j (0, 0) = p := ⟨_, rfl⟩
        obtain ⟨x0, x1⟩ := pf
        obtain ⟨y0, y1⟩ := pe
        have F0 := Lib.hid hpf
        have F1 := Lib.hid hpe
        have HJ := Lib.hid hj
        have HJZ := Lib.hid hjz
        clear hpf hpe hj hjz
        have GV := Lib.hid (gaps_valid HV.out)
        have hlen := Lib.hid (show ((qs.length : Int) == (l.length : Int) - 1) = true by rw [← HP.out, GV.out.1, rgaps_length, beq_iff_eq]; omega)
        go_wp2_with fail
        refine (sample_any v5).mono ?_
        rintro e v6 ⟨A_N, c_N, ns, rfl, hns, hN, hB⟩
        have ON0 := Lib.hid hN
        clear hN
        have OL_v6 := Lib.hid (OL_v5.out.below hB)
        clear OL_v5
        have OQ_v6 := Lib.hid (OQ_v5.out.below hB)
        clear OQ_v5
        have OS_v6 := Lib.hid (OS_v5.out.below hB)
        clear OS_v5
        have B_v6 := Lib.hid (drew2 B_v5.out hB)
        clear hB B_v5
        go_wp2_with fail
        go_loopw [36] (fun i wr => ∃ k : Nat, k ≤ ns.length ∧ i = .int .i64 k ∧ Hid (Below v6.heap.size v6 wr)) (fun i _ => ns.length - (intOf i).toNat)
        case atStart => exact ⟨0, Nat.zero_le _, rfl, Below.refl _ _⟩
        case round =>
          obtain ⟨k, hk, rfl, hBr⟩ := hrel
          have RL := Lib.hid (OL_v6.out.below hBr.out)
          have RQ := Lib.hid (OQ_v6.out.below hBr.out)
          have RS := Lib.hid (OS_v6.out.below hBr.out)
          have BR := Lib.hid (drew2 B_v6.out hBr.out)
          by_cases hlt : k < ns.length
          · obtain ⟨b, rfl, _, hbl, hc⟩ := ON0.out.cell (by omega)
            have g0 := hc k hlt
            have g1 := (hBr.out.cell (p := ⟨b, k, none⟩) hbl).trans g0
            clear hc g0
            generalize ns.getD k 0 = n at g1
            have BL0 := Lib.hid (Below.refl wr.heap.size wr)
            clear BR
            obtain ⟨d1, hd1⟩ : ∃ d, decide (x0 < n) = d := ⟨_, rfl⟩
            obtain ⟨d2, hd2⟩ : ∃ d, decide (n < y1) = d := ⟨_, rfl⟩
            obtain ⟨bl, HL⟩ : ∃ b, Hid ((rvalid l && rhas l n) = b) := ⟨_, rfl⟩
            obtain ⟨bq, HQ⟩ : ∃ b, Hid ((rvalid qs && rhas qs n) = b) := ⟨_, rfl⟩
            have EQ := Lib.hid (show bq = (!bl && d1 && d2) by
              have h1 : rvalid qs = true := by rw [← HP.out]; exact GV.out.2
              have h2 := gaps_has HV.out hl0 n
              rw [HP.out, HJ.out, F0.out, F1.out, hd1, hd2] at h2
              rw [← HQ.out, ← HL.out, HV.out, h1, Bool.true_and, Bool.true_and, h2])
            have D1 := Lib.hid hd1
            have D2 := Lib.hid hd2
            clear hd1 hd2
            go_wp2_with fail
            with_reducible refine (ihas_is n RQ.out (by omega) HQ.out).mono ?_
            rintro e v7 ⟨rfl, hB⟩
            have OL_v7 := Lib.hid (RL.out.below hB)
            clear RL
            have OQ_v7 := Lib.hid (RQ.out.below hB)
            clear RQ
            have OS_v7 := Lib.hid (RS.out.below hB)
            clear RS
            have B_v7 := Lib.hid (drew2 BL0.out hB)
            clear hB BL0
            go_wp2_with fail
            with_reducible refine (ihas_is n OL_v7.out (by omega) HL.out).mono ?_
            rintro e v8 ⟨rfl, hB⟩
            have OL_v8 := Lib.hid (OL_v7.out.below hB)
            clear OL_v7
            have OQ_v8 := Lib.hid (OQ_v7.out.below hB)
            clear OQ_v7
            have OS_v8 := Lib.hid (OS_v7.out.below hB)
            clear OS_v7
            have B_v8 := Lib.hid (drew2 B_v7.out hB)
            clear hB B_v7
            obtain ⟨gb, hgA, _, _, hcell⟩ := OL_v8.out.cell hl0
            have CA := Lib.hid hgA
            have k0 := (hcell 0 hl0).1
            have k1 := (hcell j hjl).2
            rw [F0.out] at k0
            rw [F1.out] at k1
            simp only [Nat.zero_mul] at k0 k1
            subst hgA
            clear hcell
            have s1 : IntKind.i64.wrap ((l.length : Int) - 1) = (j : Int) := by rw [IntWalk.i64_in ((l.length : Int) - 1) (by omega), HJZ.out]
            have s2 : (l.length : Int) - 1 = (j : Int) := HJZ.out.symm
            have e1 := D1.out
            have e2 := D2.out
            have eq := EQ.out
            subst eq
            cases bl <;> cases d1 <;> cases d2
            all_goals
              go_wp2_with fail
              go_roundw
              case rel => exact ⟨k + 1, by omega, by go_num, drew2 hBr.out B_v8.out⟩
              case measure => simp [intOf]; omega
          · go_wp2_with fail
            with_reducible refine (ivalid_is (b := true) RQ.out (by omega) (by rw [← HP.out]; exact GV.out.2)).mono ?_
            rintro e v7 ⟨rfl, hB⟩
            have OL_v7 := Lib.hid (RL.out.below hB)
            clear RL
            have OQ_v7 := Lib.hid (RQ.out.below hB)
            clear RQ
            have OS_v7 := Lib.hid (RS.out.below hB)
            clear RS
            have B_v7 := Lib.hid (drew2 BR.out hB)
            clear hB BR
            have t1 := hlen.out
            go_wp2
            go_ret
            exact ⟨ret_bool (by first | rfl | (simp; done)), B_v7.out⟩
      · have hl1 : l.length = 0 := by omega
        have HL1 := Lib.hid hl1
        have hl2 : ((l.length : Int) == 0) = true := by rw [hl1]; rfl
        clear hl1
        go_wp2_with fail
        with_reducible refine (same_is OQ_v5.out OS_v5.out (by omega) (decide_eq_true rfl)).mono ?_
        rintro e v6 ⟨rfl, hB⟩
        have OL_v6 := Lib.hid (OL_v5.out.below hB)
        clear OL_v5
        have OQ_v6 := Lib.hid (OQ_v5.out.below hB)
        clear OQ_v5
        have OS_v6 := Lib.hid (OS_v5.out.below hB)
        clear OS_v5
        have B_v6 := Lib.hid (drew2 B_v5.out hB)
        clear hB B_v5
        go_wp2
        go_ret
        exact ⟨ret_bool (by first | rfl | (simp; done)), B_v6.out⟩
  · go_enter Try.func10, Try.ntmps10
    go_wp2
    go_ret
    exact ⟨rfl, Below.refl _ _⟩

set_option maxRecDepth 100000 in
theorem lifted (os : Os) (started : os.Started) (H : Type) (enc : TypeId × Value → H) :
    ReturnsInHanded {} Try.checked os 10 .any (Rows.fnRangesGapsSpec.pre6 enc Try.prog Try.f10 Rows.fnRangesGapsRow.domain false) (Rows.fnRangesGapsSpec.post enc Try.prog Try.f10 false true false false) := by
  refine returnsInHanded_of_change (C := Try.checked) own started (by kernel_rfl) Try.func10
    (ChangeSpec.witness6 (enc := enc) (C := Try.checked) false ⟨#[], #[.slice none 0 0], []⟩ 8 (by kernel_rfl) (by kernel_rfl) (by kernel_rfl) (by kernel_rfl)) ?_
  intro W base args ds gs before hval0 hW hcnd _
  have hval : ∀ (j : Nat) t v, Try.f10.params[j]? = some t → args[j]? = some v → Value.okWide Try.prog W .any base t v := hval0
  have hW' := hW
  obtain ⟨p, q, hA0, hV, rfl, hfz, hnd⟩ := hW
  have hA : DataW.TrodAll enc Try.prog W 0 (fun _ => true) true Try.f10.params.toList args.toList ds p := hA0
  rw [Try.params10] at hA hval
  obtain ⟨v0, vs0, d0, ds0, p0, q0, hargs, rfl, rfl, h0, r0⟩ := trodAll_cons hA
  obtain ⟨rfl, rfl, rfl⟩ := trodAll_nil r0
  obtain rfl : args = #[v0] := by cases args; simp_all
  obtain ⟨rfl, rfl⟩ := trodVars_none hV
  obtain ⟨a0, len0, cap0, rfl⟩ := okWide_slice Try.underlying30 (hval 0 30 v0 rfl rfl)
  have k0 := h0
  have lt0 : ∀ x ∈ p0, x.block < W.heap.size := by obtain ⟨m, hm⟩ := k0; exact DataW.trod_lt m _ _ _ hm
  obtain ⟨z0, w0⟩ : ∃ zs, IsRow .u8 W a0 len0 cap0 zs := by
    obtain ⟨fuel, hf⟩ := h0
    rcases open_ints Try.underlying30 Try.underlying5 (by kernel_rfl) hf with ⟨hcs, _⟩ | ⟨x, l, c, zs, hcs, _, hl, hm, hz, _, hcell, hwz⟩
    · simp [Value.cells] at hcs
      obtain ⟨rfl, rfl, rfl⟩ := hcs
      exact ⟨[], .inl ⟨rfl, rfl, rfl, rfl⟩⟩
    · simp [Value.cells] at hcs
      obtain ⟨rfl, rfl, rfl⟩ := hcs
      exact ⟨zs, .inr ⟨_, rfl, hl, hm, by simpa using hz, hcell, hwz⟩⟩
  clear hA0 hval0
  refine (walk a0 len0 cap0 z0 W w0).mono fun e W' ⟨he, bel⟩ => ?_
  subst he
  exact ⟨_, rfl, _, _, _, [], _, [], hW', trodAll_mk1 (shut_bool Try.underlying4 _), (trodAll_cons_mk (Below.trod laidOut (by kernel_rfl) (of_decide_eq_true (by kernel_rfl)) k0 bel lt0) trodAll_mk0), rfl, bel.frame _, fun h => by cases h⟩

theorem closed : joinedFacts Try.prog 10 Try.f10 Rows.fnRangesGapsSpec Rows.fnRangesGapsRow = true := by
  unfold joinedFacts
  rw [mayEnter_ok, lifts_ok, make_ok]
  kernel_rfl

theorem over : Rows.fnRangesGapsRow.holds Try.pinned (OpenSpec.ofChange Rows.fnRangesGapsSpec) :=
  OpenClaim.holds_of_wide 10 Try.f10 rfl rfl rfl rfl rfl rfl rfl ⟨rfl, rfl, rfl, rfl, rfl⟩ rfl rfl rfl rfl rfl (by kernel_rfl) Try.func10 closed
    (of_decide_eq_true (by kernel_rfl)) (by unfold Func.isWrapper; first | (rw [if_pos (by decide +kernel)]; kernel_rfl) | (rw [if_neg (by decide +kernel)]; exact ⟨rfl, rfl⟩))
    (fun os started H enc _ => lifted os started H enc)

/-- ████ THE STATEMENT ████ -/
theorem proved : Rows.FnRangesGapsSaid := over
#print axioms proved
end Go.Proofs.Ytclfkkapahdgaaa.fnRangesGaps
