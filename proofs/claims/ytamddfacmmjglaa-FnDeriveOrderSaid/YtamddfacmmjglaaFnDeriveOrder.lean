/- Proved: the law FnDeriveOrder returns true for every input and leaves its arguments as they were: The order of boxes does not matter. (P49) No condition. -/
import Derived.Test.YtamddfacmmjglaaRows
import Derived.WalkKit
import Derived.ProofKit
import Derived.OpenShut
import Derived.ShutString
import Derived.ChangeOld
import Derived.Below
import Derived.Test.YtamddfacmmjglaaHead
import Derived.Test.YtamddfacmmjglaaDLaw
namespace Go.Proofs.Ytamddfacmmjglaa.fnDeriveOrder
open Go.ChangeShapes Go.WideShapes Go.ChangeAt Go.RowKit
open Go.ChangeMaps (open_string shut_string)
set_option linter.unusedVariables false

theorem own : ownKnob Try.prog.godebug = none := by kernel_rfl
theorem laidOut : laidOutB Try.prog = true := by kernel_rfl

theorem walk (a0 : Option Addr) (len0 cap0 : Nat) (z0 : List Int) (w : World) (w0 : IsRow .u8 w a0 len0 cap0 z0) :
    Calls Try.prog 5 #[.slice a0 len0 cap0] w fun e w' => e = .returned (.bool true) ∧ Below w.heap.size w w' := by
  have hc := codeArg_of w0
  have hl := hc.1
  have hm := hc.2.1
  have HC := Lib.hid hc
  clear w0 hc
  by_cases h1 : len0 ≤ 1048576
  · have BB0 := Lib.hid (Below.refl w.heap.size w)
    go_enter Try.func5, Try.ntmps5
    go_wp2_with fail
    refine (drawDerive_any a0 len0 cap0 w HC.out).mono ?_
    rintro e v1 ⟨A_L, c_L, l, A_K, c_K, ks, rfl, hl, hs, hk, hO, hI, hB⟩
    have L1 := Lib.hid hO
    have K1 := Lib.hid hI
    have B1 := Lib.hid (drew2 BB0.out hB)
    clear hO hI hB BB0
    obtain ⟨q, HP⟩ : ∃ q, Hid (dout l ks = q) := ⟨_, rfl⟩
    have hq : q.length ≤ 20 := by rw [← HP.out]; exact dout_len _ _
    go_wp2_with fail
    with_reducible refine (ider_r L1.out K1.out (by omega) (by omega) hs.out HP.out).mono ?_
    rintro e v2 ⟨A_Q, c_Q, rfl, hO, hB⟩
    have L2 := Lib.hid (L1.out.below hB)
    have K2 := Lib.hid (K1.out.below hB)
    have Q2 := Lib.hid hO
    have B2 := Lib.hid (drew2 B1.out hB)
    clear hO hB L1 K1 B1
    go_wp2_with fail
    with_reducible refine (sder_r L2.out K2.out (by omega) (by omega) hs.out HP.out).mono ?_
    rintro e v3 ⟨A_S, c_S, rfl, hO, hB⟩
    have L3 := Lib.hid (L2.out.below hB)
    have K3 := Lib.hid (K2.out.below hB)
    have Q3 := Lib.hid (Q2.out.below hB)
    have S3 := Lib.hid hO
    have B3 := Lib.hid (drew2 B2.out hB)
    clear hO hB L2 K2 Q2 B2
    go_wp2_with fail
    with_reducible refine (dsame_r Q3.out S3.out (by omega) (decide_eq_true rfl)).mono ?_
    rintro e v4 ⟨rfl, hB⟩
    have L4 := Lib.hid (L3.out.below hB)
    have K4 := Lib.hid (K3.out.below hB)
    have Q4 := Lib.hid (Q3.out.below hB)
    have S4 := Lib.hid (S3.out.below hB)
    have B4 := Lib.hid (drew2 B3.out hB)
    clear hB L3 K3 Q3 S3 B3
    have R0 := Lib.hid (RowBx.empty v4 v4.heap.size (Nat.le_refl _))
    have A0 := Lib.hid ((Below.refl v4.heap.size v4).alloc (Nat.le_refl _) (.cells #[] 37))
    go_wp2_with fail
    go_loopw [7, 8] (fun o i wr => ∃ (m : Nat) (x : Int) (A : Option Addr) (c : Nat) (qs : List Bx), m ≤ l.length ∧ x = (m : Int) - 1 ∧ i = .int .i64 x ∧ o = .slice A qs.length c ∧ qs.length + m ≤ 10 ∧ Hid (qs = (l.drop m).reverse) ∧ Hid (RowBx wr v4.heap.size A c qs) ∧ Hid (Below v4.heap.size v4 wr)) (fun _ i _ => (intOf i + 1).toNat)
    case atStart => exact ⟨l.length, _, _, 0, [], Nat.le_refl _, rfl, rfl, rfl, by simp; omega, by simp [Hid], R0.out, A0.out⟩
    case round =>
      clear R0 A0
      obtain ⟨m, x, A, c, qs, hm, hx, rfl, rfl, hql, hqs, hR, hA⟩ := hrel
      cases m with
      | succ j =>
        have hxj : x = (j : Int) := by omega
        clear hx
        subst hxj
        obtain ⟨b, off, rfl, hbB, hc⟩ := (L4.out.in_.below hA.out) (by omega)
        obtain ⟨Ai, ci, g1, g2, hI⟩ := hc j (by omega)
        have E := Lib.hid (show (l.drop j).reverse = qs ++ [l.getD j ⟨0, []⟩] by rw [hqs.out, List.drop_eq_getElem_cons (show j < l.length by omega), List.reverse_cons, List.getD_eq_getElem?_getD, List.getElem?_eq_getElem (show j < l.length by omega)]; rfl)
        clear hc
        generalize l.getD j ⟨0, []⟩ = t at g1 g2 hI E
        obtain ⟨key, ins⟩ := t
        simp only at g1 g2 hI
        have II := Lib.hid hI
        clear hI
        go_wp2_with (at_builtin; refine wpList_append_rbx (by rfl) (.tmp 38) (.tmp 43) (by rfl) v4.heap.size A c qs (by rfl) hR.out _ key Ai ci ins.length ins (by rfl) (by rfl) (by rfl) II.out (by omega) hA.out.size ?_; intro A' c' w' qt hqt hqtl hR2 hA2)
        have A2 := Lib.hid (hA.out.trans hA2.out)
        have E2 := Lib.hid (show qt = (l.drop j).reverse by rw [E.out, hqt.out])
        go_wp2_with fail
        go_roundw
        case rel => exact ⟨j, (j : Int) - 1, A', c', qt, by omega, rfl, by go_num, rfl, by rw [hqtl.out]; omega, E2.out, hR2.out, A2.out⟩
        case measure => simp [intOf]
      | zero =>
        have hx0 : x = -1 := by omega
        clear hx
        subst hx0
        have E := Lib.hid (show dout qs ks = q by rw [hqs.out, List.drop_zero, order_out]; exact HP.out)
        have hs2 := Lib.hid (show ∀ b ∈ qs, (b : Bx).ins.length ≤ 10 by rw [hqs.out, List.drop_zero]; intro b hb; exact hs.out b (List.mem_reverse.1 hb))
        have K5 := Lib.hid (K4.out.below hA.out)
        have Q5 := Lib.hid (Q4.out.below hA.out)
        have B5 := Lib.hid (drew2 B4.out hA.out)
        go_wp2_with fail
        with_reducible refine (iderw_r hR.out K5.out hA.out.size (by omega) (by omega) hs2.out E.out).mono ?_
        rintro e v6 ⟨A_R, c_R, rfl, hO, hB⟩
        have R6 := Lib.hid hO
        have Q6 := Lib.hid (Q5.out.below hB)
        have B6 := Lib.hid (drew2 B5.out hB)
        clear hO hB
        go_wp2_with fail
        with_reducible refine (dsame_r R6.out Q6.out (by omega) (decide_eq_true rfl)).mono ?_
        rintro e v7 ⟨rfl, hB⟩
        have B7 := Lib.hid (drew2 B6.out hB)
        clear hB
        go_wp2
        go_ret
        exact ⟨ret_bool (by first | rfl | (simp; done)), B7.out⟩
  · go_enter Try.func5, Try.ntmps5
    go_wp2
    go_ret
    exact ⟨rfl, Below.refl _ _⟩

set_option maxRecDepth 100000 in
theorem lifted (os : Os) (started : os.Started) (H : Type) (enc : TypeId × Value → H) :
    ReturnsInHanded {} Try.checked os 5 .any (Rows.fnDeriveOrderSpec.pre6 enc Try.prog Try.f5 Rows.fnDeriveOrderRow.domain false) (Rows.fnDeriveOrderSpec.post enc Try.prog Try.f5 false true false false) := by
  refine returnsInHanded_of_change (C := Try.checked) own started (by kernel_rfl) Try.func5
    (ChangeSpec.witness6 (enc := enc) (C := Try.checked) false ⟨#[], #[.slice none 0 0], []⟩ 8 (by kernel_rfl) (by kernel_rfl) (by kernel_rfl) (by kernel_rfl)) ?_
  intro W base args ds gs before hval0 hW hcnd _
  have hval : ∀ (j : Nat) t v, Try.f5.params[j]? = some t → args[j]? = some v → Value.okWide Try.prog W .any base t v := hval0
  have hW' := hW
  obtain ⟨p, q, hA0, hV, rfl, hfz, hnd⟩ := hW
  have hA : DataW.TrodAll enc Try.prog W 0 (fun _ => true) true Try.f5.params.toList args.toList ds p := hA0
  rw [Try.params5] at hA hval
  obtain ⟨v0, vs0, d0, ds0, p0, q0, hargs, rfl, rfl, h0, r0⟩ := trodAll_cons hA
  obtain ⟨rfl, rfl, rfl⟩ := trodAll_nil r0
  obtain rfl : args = #[v0] := by cases args; simp_all
  obtain ⟨rfl, rfl⟩ := trodVars_none hV
  obtain ⟨a0, len0, cap0, rfl⟩ := okWide_slice Try.underlying29 (hval 0 29 v0 rfl rfl)
  have k0 := h0
  have lt0 : ∀ x ∈ p0, x.block < W.heap.size := by obtain ⟨m, hm⟩ := k0; exact DataW.trod_lt m _ _ _ hm
  obtain ⟨z0, w0⟩ : ∃ zs, IsRow .u8 W a0 len0 cap0 zs := by
    obtain ⟨fuel, hf⟩ := h0
    rcases open_ints Try.underlying29 Try.underlying5 (by kernel_rfl) hf with ⟨hcs, _⟩ | ⟨x, l, c, zs, hcs, _, hl, hm, hz, _, hcell, hwz⟩
    · simp [Value.cells] at hcs
      obtain ⟨rfl, rfl, rfl⟩ := hcs
      exact ⟨[], .inl ⟨rfl, rfl, rfl, rfl⟩⟩
    · simp [Value.cells] at hcs
      obtain ⟨rfl, rfl, rfl⟩ := hcs
      exact ⟨zs, .inr ⟨_, rfl, hl, hm, by simpa using hz, hcell, hwz⟩⟩
  clear hA0 hval0
  refine (walk a0 len0 cap0 z0 W w0).mono fun e W' ⟨he, bel⟩ => ?_
  subst he
  exact ⟨_, rfl, _, _, _, [], _, [], hW', trodAll_mk1 (shut_bool Try.underlying4 _), (trodAll_cons_mk (Below.trod laidOut (by kernel_rfl) (of_decide_eq_true (by kernel_rfl)) k0 bel lt0) trodAll_mk0), rfl, bel.frame _, fun h => by cases h⟩

theorem closed : joinedFacts Try.prog 5 Try.f5 Rows.fnDeriveOrderSpec Rows.fnDeriveOrderRow = true := by
  unfold joinedFacts
  rw [mayEnter_ok, lifts_ok, make_ok]
  kernel_rfl

theorem over : Rows.fnDeriveOrderRow.holds Try.pinned (OpenSpec.ofChange Rows.fnDeriveOrderSpec) :=
  OpenClaim.holds_of_wide 5 Try.f5 rfl rfl rfl rfl rfl rfl rfl ⟨rfl, rfl, rfl, rfl, rfl⟩ rfl rfl rfl rfl rfl (by kernel_rfl) Try.func5 closed
    (of_decide_eq_true (by kernel_rfl)) (by unfold Func.isWrapper; first | (rw [if_pos (by decide +kernel)]; kernel_rfl) | (rw [if_neg (by decide +kernel)]; exact ⟨rfl, rfl⟩))
    (fun os started H enc _ => lifted os started H enc)

/-- ████ THE STATEMENT ████ -/
theorem proved : Rows.FnDeriveOrderSaid := over
#print axioms proved
end Go.Proofs.Ytamddfacmmjglaa.fnDeriveOrder
