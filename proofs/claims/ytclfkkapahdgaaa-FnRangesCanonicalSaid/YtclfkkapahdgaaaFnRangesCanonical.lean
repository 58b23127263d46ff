/- Proved: the law FnRangesCanonical returns true for every input and leaves its arguments as they were: A set has one representation. (P21) No condition. -/
import Derived.Test.YtclfkkapahdgaaaRows
import Derived.WalkKit
import Derived.ProofKit
import Derived.OpenShut
import Derived.ShutString
import Derived.ChangeOld
import Derived.Below
import Derived.Test.YtclfkkapahdgaaaHead
import Derived.Test.YtclfkkapahdgaaaRSample
import Derived.Test.YtclfkkapahdgaaaRCanon
namespace Go.Proofs.Ytclfkkapahdgaaa.fnRangesCanonical
open Go.ChangeShapes Go.WideShapes Go.ChangeAt Go.RowKit
open Go.ChangeMaps (open_string shut_string)
set_option linter.unusedVariables false

theorem own : ownKnob Try.prog.godebug = none := by kernel_rfl
theorem laidOut : laidOutB Try.prog = true := by kernel_rfl

theorem walk (a0 : Option Addr) (len0 cap0 : Nat) (z0 : List Int) (a1 : Option Addr) (len1 cap1 : Nat) (z1 : List Int) (w : World) (w0 : IsRow .u8 w a0 len0 cap0 z0) (w1 : IsRow .u8 w a1 len1 cap1 z1) :
    Calls Try.prog 8 #[.slice a0 len0 cap0, .slice a1 len1 cap1] w fun e w' => e = .returned (.bool true) ∧ Below w.heap.size w w' := by
  have hc := codeArg_of w0
  have hc' := codeArg_of w1
  have hl := hc.1
  have hm := hc.2.1
  have hl' := hc'.1
  have hm' := hc'.2.1
  have HC := Lib.hid hc
  have HC' := Lib.hid hc'
  clear w0 w1 hc hc'
  by_cases h1 : len0 ≤ 1048576
  · by_cases h2 : len1 ≤ 1048576
    · have BB0 := Lib.hid (Below.refl w.heap.size w)
      go_enter Try.func8, Try.ntmps8
      go_wp2_with fail
      refine (drawValid_any a0 len0 cap0 w HC.out).mono ?_
      rintro e v1 ⟨A_L, c_L, l, rfl, hl, hO, hB⟩
      have OL_v1 := Lib.hid hO
      clear hO
      have B_v1 := Lib.hid (drew2 BB0.out hB)
      clear hB BB0
      obtain ⟨vb, HV⟩ : ∃ b, Hid (rvalid l = b) := ⟨_, rfl⟩
      go_wp2_with fail
      with_reducible refine (ivalid_is OL_v1.out (by omega) HV.out).mono ?_
      rintro e v2 ⟨rfl, hB⟩
      have OL_v2 := Lib.hid (OL_v1.out.below hB)
      clear OL_v1
      have B_v2 := Lib.hid (drew2 B_v1.out hB)
      clear hB B_v1
      go_wp2_with fail
      with_reducible refine (svalid_is OL_v2.out (by omega) HV.out).mono ?_
      rintro e v3 ⟨rfl, hB⟩
      have OL_v3 := Lib.hid (OL_v2.out.below hB)
      clear OL_v2
      have B_v3 := Lib.hid (drew2 B_v2.out hB)
      clear hB B_v2
      cases vb with
      | false =>
        go_wp2
        go_ret
        exact ⟨ret_bool (by first | rfl | (simp; done)), B_v3.out⟩
      | true =>
        have hn := rvalid_len HV.out
        have OE := Lib.hid (OwnRs.empty v3 v3.heap.size (Nat.le_refl _))
        have BE := Lib.hid ((Below.refl v3.heap.size v3).alloc (Nat.le_refl _) (.cells #[] 38))
        go_wp2_with fail
        go_loopw [8, 9] (fun x i wr => ∃ (k : Nat) (A : Option Addr) (c : Nat) (s : List (Option Int)) (q : List Rg), k ≤ l.length ∧ i = .int .i64 k ∧ x = .slice A q.length c ∧ q.length ≤ 16 ∧ Hid (q = sel l s) ∧ Hid (Vis l len1 k s) ∧ Hid (OwnRs wr v3.heap.size A c q) ∧ Hid (Below v3.heap.size v3 wr)) (fun _ i _ => l.length - (intOf i).toNat)
        case atStart => exact ⟨0, _, 0, List.replicate l.length none, [], Nat.zero_le _, rfl, rfl, by simp, (sel_none l).symm, vis_start l len1, OE.out, BE.out⟩
        case round =>
          clear OE BE
          obtain ⟨k, A, c, s, q, hk, rfl, rfl, hq, hqs, hvis, hO, hB⟩ := hrel
          by_cases hlt : k < l.length
          · obtain ⟨p, hp⟩ : ∃ p, perm l.length len1 k = p := ⟨_, rfl⟩
            have hpl : p < l.length := by rw [← hp]; exact perm_lt hlt
            obtain ⟨g, hgA, _, hgl, hcell⟩ := OL_v3.out.cell (by omega)
            have K0 := Lib.hid (hcell p hpl)
            clear hcell
            subst hgA
            obtain ⟨pr, hpp⟩ : ∃ pr, l.getD p (0, 0) = pr := ⟨_, rfl⟩
            have RA := rv_at (rvalid_rv HV.out) hpl
            have K1 := Lib.hid (show v3.cell? ⟨g, p * 2, none⟩ = some (.int .i64 pr.1) ∧ v3.cell? ⟨g, p * 2 + 1, none⟩ = some (.int .i64 pr.2) by rw [← hpp]; exact K0.out)
            rw [hpp] at RA
            have PP := Lib.hid hpp
            have HPM := Lib.hid hp
            clear hpp K0
            obtain ⟨xl, xh⟩ := pr
            simp only at RA
            obtain ⟨ra0, ra1, ra2⟩ := RA
            have VN := Lib.hid (vis_now hvis.out hn hlt)
            have g1 := (hB.out.cell (p := ⟨g, p * 2 + 1, none⟩) hgl).trans K1.out.2
            simp only at g1
            have pz : (0 : Int) ≤ (p : Int) := by omega
            have pn : (p : Int) < (l.length : Int) := by omega
            by_cases h7 : l.length % 7 = 0
            · have t7 : ((l.length : Int) % 7 == 0) = true := by rw [beq_iff_eq]; omega
              have u3 : (l.length : Int) - 1 - (k : Int) = (p : Int) := by rw [← hp]; unfold perm; rw [if_pos h7]; omega
              clear hp h7
              go_wp2_with fail
              go_loopw [8, 11] (fun x v wq => ∃ (b : Int) (A' : Option Addr) (c' : Nat) (s' : List (Option Int)) (q' : List Rg), v = .int .i64 b ∧ x = .slice A' q'.length c' ∧ q'.length ≤ 16 ∧ xl - 1 ≤ b ∧ b ≤ xh ∧ Hid (q' = sel l s') ∧ Hid (SelOk l s') ∧ Hid (b = xh ∧ s'.getD p none = none ∨ b < xh ∧ s'.getD p none = some (b + 1)) ∧ Hid (∀ j, j ≠ p → s'.getD j none = s.getD j none) ∧ Hid (OwnRs wq v3.heap.size A' c' q') ∧ Hid (Below v3.heap.size v3 wq)) (fun _ v _ => (intOf v - xl + 1).toNat)
              case atStart => exact ⟨xh, A, c, s, q, rfl, rfl, hq, by omega, by omega, hqs.out, hvis.out.1, .inl ⟨rfl, by rw [← HPM.out]; exact VN.out⟩, fun _ _ => rfl, hO.out, hB.out⟩
              case round =>
                clear hO hB g1
                obtain ⟨b, A', c', s', q', rfl, rfl, hq', hb0, hb1, hqs', hs', hst, hoth, hO', hB'⟩ := hrel
                have g2 := (hB'.out.cell (p := ⟨g, p * 2, none⟩) hgl).trans K1.out.1
                by_cases hb : xl ≤ b
                · obtain ⟨q2, hq2⟩ : ∃ q2, q2 = sel l (s'.set p (some b)) := ⟨_, rfl⟩
                  have Q2 := Lib.hid hq2
                  have L2 : q2.length ≤ 16 := by have := sel_len l (s'.set p (some b)); rw [hq2]; omega
                  clear hq2
                  have HA := Lib.hid (show addOf q' b b = (q2, true) by
                    rw [hqs'.out, Q2.out]
                    refine add_sel_of HV.out hs'.out hpl ?_
                    rw [PP.out]
                    rcases hst.out with ⟨h1, h2⟩ | ⟨h1, h2⟩
                    · exact .inl ⟨h2, h1⟩
                    · exact .inr ⟨h2, hb⟩)
                  have S2 := Lib.hid (selOk_set hs'.out p b hpl (by rw [PP.out]; exact hb) (by rw [PP.out]; exact hb1))
                  have G2 := Lib.hid (show (s'.set p (some b)).getD p none = some (b - 1 + 1) by rw [getD_set_self (by rw [hs'.out.1]; exact hpl)]; congr 1; omega)
                  have T2 := Lib.hid (fun j (hj : j ≠ p) => (getD_set_ne (s := s') (v := some b) hj).trans (hoth.out j hj))
                  go_wp2_with fail
                  with_reducible refine (iadd_is hO'.out (by omega) HA.out).mono ?_
                  rintro e w2 ⟨A2, c2, rfl, hO2, hB2⟩
                  have O2 := Lib.hid (hO2.mono hB'.out.size)
                  have B2 := Lib.hid (drew2 hB'.out hB2)
                  clear hO2 hB2
                  go_wp2_with fail
                  go_roundw
                  case rel => exact ⟨b - 1, A2, c2, s'.set p (some b), q2, by go_num, rfl, L2, by omega, by omega, Q2.out, S2.out, .inr ⟨by omega, G2.out⟩, T2.out, O2.out, B2.out⟩
                  case measure => simp [intOf]; omega
                · have VX := Lib.hid (show Vis l len1 (k + 1) s' from vis_next hvis.out hlt hs'.out (by
                    rw [HPM.out, PP.out]
                    rcases hst.out with ⟨h1, h2⟩ | ⟨h1, h2⟩
                    · omega
                    · rw [h2]; show some (b + 1) = some xl; congr 1; omega) (by rw [HPM.out]; exact hoth.out))
                  go_wp2_with fail
                  go_roundw
                  case rel => exact ⟨k + 1, A', c', s', q', by omega, by go_num, rfl, hq', hqs'.out, VX.out, hO'.out, hB'.out⟩
                  case measure => simp [intOf]; omega
            · have t7 : ((l.length : Int) % 7 == 0) = false := by rw [beq_eq_false_iff_ne]; omega
              have u1 : ((k : Int) * 7 + (len1 : Int)) % (l.length : Int) = (p : Int) := by rw [← hp]; unfold perm; rw [if_neg h7]; rfl
              clear hp h7
              go_wp2_with fail
              go_loopw [8, 11] (fun x v wq => ∃ (b : Int) (A' : Option Addr) (c' : Nat) (s' : List (Option Int)) (q' : List Rg), v = .int .i64 b ∧ x = .slice A' q'.length c' ∧ q'.length ≤ 16 ∧ xl - 1 ≤ b ∧ b ≤ xh ∧ Hid (q' = sel l s') ∧ Hid (SelOk l s') ∧ Hid (b = xh ∧ s'.getD p none = none ∨ b < xh ∧ s'.getD p none = some (b + 1)) ∧ Hid (∀ j, j ≠ p → s'.getD j none = s.getD j none) ∧ Hid (OwnRs wq v3.heap.size A' c' q') ∧ Hid (Below v3.heap.size v3 wq)) (fun _ v _ => (intOf v - xl + 1).toNat)
              case atStart => exact ⟨xh, A, c, s, q, rfl, rfl, hq, by omega, by omega, hqs.out, hvis.out.1, .inl ⟨rfl, by rw [← HPM.out]; exact VN.out⟩, fun _ _ => rfl, hO.out, hB.out⟩
              case round =>
                clear hO hB g1
                obtain ⟨b, A', c', s', q', rfl, rfl, hq', hb0, hb1, hqs', hs', hst, hoth, hO', hB'⟩ := hrel
                have g2 := (hB'.out.cell (p := ⟨g, p * 2, none⟩) hgl).trans K1.out.1
                by_cases hb : xl ≤ b
                · obtain ⟨q2, hq2⟩ : ∃ q2, q2 = sel l (s'.set p (some b)) := ⟨_, rfl⟩
                  have Q2 := Lib.hid hq2
                  have L2 : q2.length ≤ 16 := by have := sel_len l (s'.set p (some b)); rw [hq2]; omega
                  clear hq2
                  have HA := Lib.hid (show addOf q' b b = (q2, true) by
                    rw [hqs'.out, Q2.out]
                    refine add_sel_of HV.out hs'.out hpl ?_
                    rw [PP.out]
                    rcases hst.out with ⟨h1, h2⟩ | ⟨h1, h2⟩
                    · exact .inl ⟨h2, h1⟩
                    · exact .inr ⟨h2, hb⟩)
                  have S2 := Lib.hid (selOk_set hs'.out p b hpl (by rw [PP.out]; exact hb) (by rw [PP.out]; exact hb1))
                  have G2 := Lib.hid (show (s'.set p (some b)).getD p none = some (b - 1 + 1) by rw [getD_set_self (by rw [hs'.out.1]; exact hpl)]; congr 1; omega)
                  have T2 := Lib.hid (fun j (hj : j ≠ p) => (getD_set_ne (s := s') (v := some b) hj).trans (hoth.out j hj))
                  go_wp2_with fail
                  with_reducible refine (iadd_is hO'.out (by omega) HA.out).mono ?_
                  rintro e w2 ⟨A2, c2, rfl, hO2, hB2⟩
                  have O2 := Lib.hid (hO2.mono hB'.out.size)
                  have B2 := Lib.hid (drew2 hB'.out hB2)
                  clear hO2 hB2
                  go_wp2_with fail
                  go_roundw
                  case rel => exact ⟨b - 1, A2, c2, s'.set p (some b), q2, by go_num, rfl, L2, by omega, by omega, Q2.out, S2.out, .inr ⟨by omega, G2.out⟩, T2.out, O2.out, B2.out⟩
                  case measure => simp [intOf]; omega
                · have VX := Lib.hid (show Vis l len1 (k + 1) s' from vis_next hvis.out hlt hs'.out (by
                    rw [HPM.out, PP.out]
                    rcases hst.out with ⟨h1, h2⟩ | ⟨h1, h2⟩
                    · omega
                    · rw [h2]; show some (b + 1) = some xl; congr 1; omega) (by rw [HPM.out]; exact hoth.out))
                  go_wp2_with fail
                  go_roundw
                  case rel => exact ⟨k + 1, A', c', s', q', by omega, by go_num, rfl, hq', hqs'.out, VX.out, hO'.out, hB'.out⟩
                  case measure => simp [intOf]; omega
          · have hk' : k = l.length := by omega
            have E := Lib.hid (show q = l by rw [hqs.out]; have := hvis.out; rw [hk'] at this; exact vis_end this hn)
            clear hk'
            go_wp2_with fail
            with_reducible refine (same_is hO.out (OL_v3.out.below hB.out) (by omega) (decide_eq_true E.out)).mono ?_
            rintro e w9 ⟨rfl, hB9⟩
            have B9 := Lib.hid (drew2 (drew2 B_v3.out hB.out) hB9)
            clear hB9
            go_wp2
            go_ret
            exact ⟨rfl, B9.out⟩
    · go_enter Try.func8, Try.ntmps8
      go_wp2
      go_ret
      exact ⟨rfl, Below.refl _ _⟩
  · go_enter Try.func8, Try.ntmps8
    go_wp2
    go_ret
    exact ⟨rfl, Below.refl _ _⟩

set_option maxRecDepth 100000 in
theorem lifted (os : Os) (started : os.Started) (H : Type) (enc : TypeId × Value → H) :
    ReturnsInHanded {} Try.checked os 8 .any (Rows.fnRangesCanonicalSpec.pre6 enc Try.prog Try.f8 Rows.fnRangesCanonicalRow.domain false) (Rows.fnRangesCanonicalSpec.post enc Try.prog Try.f8 false true false false) := by
  refine returnsInHanded_of_change (C := Try.checked) own started (by kernel_rfl) Try.func8
    (ChangeSpec.witness6 (enc := enc) (C := Try.checked) false ⟨#[], #[.slice none 0 0, .slice none 0 0], []⟩ 8 (by kernel_rfl) (by kernel_rfl) (by kernel_rfl) (by kernel_rfl)) ?_
  intro W base args ds gs before hval0 hW hcnd _
  have hval : ∀ (j : Nat) t v, Try.f8.params[j]? = some t → args[j]? = some v → Value.okWide Try.prog W .any base t v := hval0
  have hW' := hW
  obtain ⟨p, q, hA0, hV, rfl, hfz, hnd⟩ := hW
  have hA : DataW.TrodAll enc Try.prog W 0 (fun _ => true) true Try.f8.params.toList args.toList ds p := hA0
  rw [Try.params8] at hA hval
  obtain ⟨v0, vs0, d0, ds0, p0, q0, hargs, rfl, rfl, h0, r0⟩ := trodAll_cons hA
  obtain ⟨v1, vs1, d1, ds1, p1, q1, rfl, rfl, rfl, h1, r1⟩ := trodAll_cons r0
  obtain ⟨rfl, rfl, rfl⟩ := trodAll_nil r1
  obtain rfl : args = #[v0, v1] := by cases args; simp_all
  obtain ⟨rfl, rfl⟩ := trodVars_none hV
  obtain ⟨a0, len0, cap0, rfl⟩ := okWide_slice Try.underlying30 (hval 0 30 v0 rfl rfl)
  have k0 := h0
  have lt0 : ∀ x ∈ p0, x.block < W.heap.size := by obtain ⟨m, hm⟩ := k0; exact DataW.trod_lt m _ _ _ hm
  obtain ⟨z0, w0⟩ : ∃ zs, IsRow .u8 W a0 len0 cap0 zs := by
    obtain ⟨fuel, hf⟩ := h0
    rcases open_ints Try.underlying30 Try.underlying5 (by kernel_rfl) hf with ⟨hcs, _⟩ | ⟨x, l, c, zs, hcs, _, hl, hm, hz, _, hcell, hwz⟩
    · simp [Value.cells] at hcs
      obtain ⟨rfl, rfl, rfl⟩ := hcs
      exact ⟨[], .inl ⟨rfl, rfl, rfl, rfl⟩⟩
    · simp [Value.cells] at hcs
      obtain ⟨rfl, rfl, rfl⟩ := hcs
      exact ⟨zs, .inr ⟨_, rfl, hl, hm, by simpa using hz, hcell, hwz⟩⟩
  obtain ⟨a1, len1, cap1, rfl⟩ := okWide_slice Try.underlying30 (hval 1 30 v1 rfl rfl)
  have k1 := h1
  have lt1 : ∀ x ∈ p1, x.block < W.heap.size := by obtain ⟨m, hm⟩ := k1; exact DataW.trod_lt m _ _ _ hm
  obtain ⟨z1, w1⟩ : ∃ zs, IsRow .u8 W a1 len1 cap1 zs := by
    obtain ⟨fuel, hf⟩ := h1
    rcases open_ints Try.underlying30 Try.underlying5 (by kernel_rfl) hf with ⟨hcs, _⟩ | ⟨x, l, c, zs, hcs, _, hl, hm, hz, _, hcell, hwz⟩
    · simp [Value.cells] at hcs
      obtain ⟨rfl, rfl, rfl⟩ := hcs
      exact ⟨[], .inl ⟨rfl, rfl, rfl, rfl⟩⟩
    · simp [Value.cells] at hcs
      obtain ⟨rfl, rfl, rfl⟩ := hcs
      exact ⟨zs, .inr ⟨_, rfl, hl, hm, by simpa using hz, hcell, hwz⟩⟩
  clear hA0 hval0
  refine (walk a0 len0 cap0 z0 a1 len1 cap1 z1 W w0 w1).mono fun e W' ⟨he, bel⟩ => ?_
  subst he
  exact ⟨_, rfl, _, _, _, [], _, [], hW', trodAll_mk1 (shut_bool Try.underlying4 _), (trodAll_cons_mk (Below.trod laidOut (by kernel_rfl) (of_decide_eq_true (by kernel_rfl)) k0 bel lt0) (trodAll_cons_mk (Below.trod laidOut (by kernel_rfl) (of_decide_eq_true (by kernel_rfl)) k1 bel lt1) trodAll_mk0)), rfl, bel.frame _, fun h => by cases h⟩

theorem closed : joinedFacts Try.prog 8 Try.f8 Rows.fnRangesCanonicalSpec Rows.fnRangesCanonicalRow = true := by
  unfold joinedFacts
  rw [mayEnter_ok, lifts_ok, make_ok]
  kernel_rfl

theorem over : Rows.fnRangesCanonicalRow.holds Try.pinned (OpenSpec.ofChange Rows.fnRangesCanonicalSpec) :=
  OpenClaim.holds_of_wide 8 Try.f8 rfl rfl rfl rfl rfl rfl rfl ⟨rfl, rfl, rfl, rfl, rfl⟩ rfl rfl rfl rfl rfl (by kernel_rfl) Try.func8 closed
    (of_decide_eq_true (by kernel_rfl)) (by unfold Func.isWrapper; first | (rw [if_pos (by decide +kernel)]; kernel_rfl) | (rw [if_neg (by decide +kernel)]; exact ⟨rfl, rfl⟩))
    (fun os started H enc _ => lifted os started H enc)

/-- ████ THE STATEMENT ████ -/
theorem proved : Rows.FnRangesCanonicalSaid := over
#print axioms proved
end Go.Proofs.Ytclfkkapahdgaaa.fnRangesCanonical
