/- Proved: the law FnRangesCountAdd returns true for every input and leaves its arguments as they were: Adding a number increases the count unless it is present. (P19) No condition. -/
import Derived.Test.YtclfkkapahdgaaaRows
import Derived.WalkKit
import Derived.ProofKit
import Derived.OpenShut
import Derived.ShutString
import Derived.ChangeOld
import Derived.Below
import Derived.Test.YtclfkkapahdgaaaHead
import Derived.Test.YtclfkkapahdgaaaRSample
namespace Go.Proofs.Ytclfkkapahdgaaa.fnRangesCountAdd
open Go.ChangeShapes Go.WideShapes Go.ChangeAt Go.RowKit
open Go.ChangeMaps (open_string shut_string)
set_option linter.unusedVariables false

theorem own : ownKnob Try.prog.godebug = none := by kernel_rfl
theorem laidOut : laidOutB Try.prog = true := by kernel_rfl

theorem rsum_key (l : List Rg) : ∀ la : Int, -2 ≤ la → la ≤ 999 → rv la l = true → 0 ≤ rsum l ∧ rsum l ≤ 999 - la := by
  induction l with
  | nil => intro la h0 h1 _; unfold rsum; omega
  | cons r l ih =>
    intro la h0 h1 h
    have k := (rv_cons _ _ _).1 h
    have := ih r.2 (by omega) (by omega) k.2.2.2
    rw [rsum_cons]; omega
theorem rsum_bd {l : List Rg} (h : rv (-2) l = true) : -1 ≤ rsum l ∧ rsum l ≤ 100000 := by
  have := rsum_key l (-2) (by omega) (by omega) h; omega

theorem walk (a0 : Option Addr) (len0 cap0 : Nat) (z0 : List Int) (a1 : Option Addr) (len1 cap1 : Nat) (z1 : List Int) (w : World) (w0 : IsRow .u8 w a0 len0 cap0 z0) (w1 : IsRow .u8 w a1 len1 cap1 z1) :
    Calls Try.prog 16 #[.slice a0 len0 cap0, .slice a1 len1 cap1] w fun e w' => e = .returned (.bool true) ∧ Below w.heap.size w w' := by
  have hc := codeArg_of w0
  have hc' := codeArg_of w1
  have hl := hc.1
  have hm := hc.2.1
  have hl' := hc'.1
  have hm' := hc'.2.1
  have HC := Lib.hid hc
  have HC' := Lib.hid hc'
  clear w0 w1 hc hc'
  by_cases h1 : len0 ≤ 1048576
  · by_cases h2 : len1 ≤ 1048576
    · have BB0 := Lib.hid (Below.refl w.heap.size w)
      go_enter Try.func16, Try.ntmps16
      go_wp2_with fail
      refine (drawCount_any a0 len0 cap0 w HC.out).mono ?_
      rintro e v1 ⟨A_L, c_L, l, rfl, hl, hO, hB⟩
      have OL_v1 := Lib.hid hO
      clear hO
      have B_v1 := Lib.hid (drew2 BB0.out hB)
      clear hB BB0
      obtain ⟨cn, HC2⟩ : ∃ n, Hid (rcount l = n) := ⟨_, rfl⟩
      obtain ⟨vb, HV⟩ : ∃ b, Hid (rvalid l = b) := ⟨_, rfl⟩
      go_wp2_with fail
      with_reducible refine (icount_is OL_v1.out (by omega) HC2.out).mono ?_
      rintro e v2 ⟨rfl, hB⟩
      have OL_v2 := Lib.hid (OL_v1.out.below hB)
      clear OL_v1
      have B_v2 := Lib.hid (drew2 B_v1.out hB)
      clear hB B_v1
      go_wp2_with fail
      with_reducible refine (scount_is OL_v2.out (by omega) HC2.out).mono ?_
      rintro e v3 ⟨rfl, hB⟩
      have OL_v3 := Lib.hid (OL_v2.out.below hB)
      clear OL_v2
      have B_v3 := Lib.hid (drew2 B_v2.out hB)
      clear hB B_v2
      go_wp2_with fail
      with_reducible refine (svalid_is OL_v3.out (by omega) HV.out).mono ?_
      rintro e v4 ⟨rfl, hB⟩
      have OL_v4 := Lib.hid (OL_v3.out.below hB)
      clear OL_v3
      have B_v4 := Lib.hid (drew2 B_v3.out hB)
      clear hB B_v3
      cases vb with
      | false =>
        go_wp2
        go_ret
        exact ⟨ret_bool (by first | rfl | (simp; done)), B_v4.out⟩
      | true =>
        obtain ⟨m, hm2⟩ : ∃ m : Int, (len1 : Int) % 50 = m := ⟨_, rfl⟩
        have hm0 : 0 ≤ m := by omega
        have hm9 : m ≤ 49 := by omega
        obtain ⟨qs, ok, HP, hq⟩ := add_parts l m m
        have HM := Lib.hid hm2
        have SPN := Lib.hid ((span_iff m m).2 ⟨hm0, Int.le_refl _, by omega⟩)
        have t0 : ((len1 : Int)).tmod 50 = m := by rw [Int.tmod_eq_emod_of_nonneg (by omega)]; exact hm2
        go_wp2_with fail
        with_reducible refine (iadd_is OL_v4.out (by omega) HP.out).mono ?_
        rintro e v5 ⟨A_Q, c_Q, rfl, hO, hB⟩
        have OL_v5 := Lib.hid (OL_v4.out.below hB)
        clear OL_v4
        have OQ_v5 := Lib.hid hO
        clear hO
        have B_v5 := Lib.hid (drew2 B_v4.out hB)
        clear hB B_v4
        cases ok with
        | false =>
          have hf : ((l.length : Int) == 16) = true := by rw [add_full HV.out SPN.out HP.out]; rfl
          go_wp2
          go_ret
          exact ⟨ret_bool (by first | rfl | (simp; done)), B_v5.out⟩
        | true =>
          obtain ⟨hb, HH⟩ : ∃ b, Hid ((rvalid l && rhas l m) = b) := ⟨_, rfl⟩
          have CA := Lib.hid (show rcount qs = cn + (if hb = true then 0 else 1) by rw [count_add HP.out, HC2.out, ← HH.out, HV.out, Bool.true_and])
          go_wp2_with fail
          with_reducible refine (ihas_is m OL_v5.out (by omega) HH.out).mono ?_
          rintro e v6 ⟨rfl, hB⟩
          have OL_v6 := Lib.hid (OL_v5.out.below hB)
          clear OL_v5
          have OQ_v6 := Lib.hid (OQ_v5.out.below hB)
          clear OQ_v5
          have B_v6 := Lib.hid (drew2 B_v5.out hB)
          clear hB B_v5
          cases hb with
          | false =>
            go_wp2_with fail
            with_reducible refine (icount_is (n := cn + 1) OQ_v6.out (by omega) (by rw [CA.out, if_neg (by decide)])).mono ?_
            rintro e v7 ⟨rfl, hB⟩
            have OL_v7 := Lib.hid (OL_v6.out.below hB)
            clear OL_v6
            have OQ_v7 := Lib.hid (OQ_v6.out.below hB)
            clear OQ_v6
            have B_v7 := Lib.hid (drew2 B_v6.out hB)
            clear hB B_v6
            have hcn : -1 ≤ cn ∧ cn ≤ 100000 := by rw [← HC2.out, rcount_of HV.out]; exact rsum_bd (rvalid_rv HV.out)
            obtain ⟨hcn0, hcn1⟩ := hcn
            go_wp2
            go_ret
            exact ⟨ret_bool (by first | rfl | (simp; done)), B_v7.out⟩
          | true =>
            go_wp2_with fail
            with_reducible refine (icount_is (n := cn) OQ_v6.out (by omega) (by rw [CA.out]; simp)).mono ?_
            rintro e v7 ⟨rfl, hB⟩
            have OL_v7 := Lib.hid (OL_v6.out.below hB)
            clear OL_v6
            have OQ_v7 := Lib.hid (OQ_v6.out.below hB)
            clear OQ_v6
            have B_v7 := Lib.hid (drew2 B_v6.out hB)
            clear hB B_v6
            go_wp2
            go_ret
            exact ⟨ret_bool (by first | rfl | (simp; done)), B_v7.out⟩
    · go_enter Try.func16, Try.ntmps16
      go_wp2
      go_ret
      exact ⟨rfl, Below.refl _ _⟩
  · go_enter Try.func16, Try.ntmps16
    go_wp2
    go_ret
    exact ⟨rfl, Below.refl _ _⟩

set_option maxRecDepth 100000 in
theorem lifted (os : Os) (started : os.Started) (H : Type) (enc : TypeId × Value → H) :
    ReturnsInHanded {} Try.checked os 16 .any (Rows.fnRangesCountAddSpec.pre6 enc Try.prog Try.f16 Rows.fnRangesCountAddRow.domain false) (Rows.fnRangesCountAddSpec.post enc Try.prog Try.f16 false true false false) := by
  refine returnsInHanded_of_change (C := Try.checked) own started (by kernel_rfl) Try.func16
    (ChangeSpec.witness6 (enc := enc) (C := Try.checked) false ⟨#[], #[.slice none 0 0, .slice none 0 0], []⟩ 8 (by kernel_rfl) (by kernel_rfl) (by kernel_rfl) (by kernel_rfl)) ?_
  intro W base args ds gs before hval0 hW hcnd _
  have hval : ∀ (j : Nat) t v, Try.f16.params[j]? = some t → args[j]? = some v → Value.okWide Try.prog W .any base t v := hval0
  have hW' := hW
  obtain ⟨p, q, hA0, hV, rfl, hfz, hnd⟩ := hW
  have hA : DataW.TrodAll enc Try.prog W 0 (fun _ => true) true Try.f16.params.toList args.toList ds p := hA0
  rw [Try.params16] at hA hval
  obtain ⟨v0, vs0, d0, ds0, p0, q0, hargs, rfl, rfl, h0, r0⟩ := trodAll_cons hA
  obtain ⟨v1, vs1, d1, ds1, p1, q1, rfl, rfl, rfl, h1, r1⟩ := trodAll_cons r0
  obtain ⟨rfl, rfl, rfl⟩ := trodAll_nil r1
  obtain rfl : args = #[v0, v1] := by cases args; simp_all
  obtain ⟨rfl, rfl⟩ := trodVars_none hV
  obtain ⟨a0, len0, cap0, rfl⟩ := okWide_slice Try.underlying30 (hval 0 30 v0 rfl rfl)
  have k0 := h0
  have lt0 : ∀ x ∈ p0, x.block < W.heap.size := by obtain ⟨m, hm⟩ := k0; exact DataW.trod_lt m _ _ _ hm
  obtain ⟨z0, w0⟩ : ∃ zs, IsRow .u8 W a0 len0 cap0 zs := by
    obtain ⟨fuel, hf⟩ := h0
    rcases open_ints Try.underlying30 Try.underlying5 (by kernel_rfl) hf with ⟨hcs, _⟩ | ⟨x, l, c, zs, hcs, _, hl, hm, hz, _, hcell, hwz⟩
    · simp [Value.cells] at hcs
      obtain ⟨rfl, rfl, rfl⟩ := hcs
      exact ⟨[], .inl ⟨rfl, rfl, rfl, rfl⟩⟩
    · simp [Value.cells] at hcs
      obtain ⟨rfl, rfl, rfl⟩ := hcs
      exact ⟨zs, .inr ⟨_, rfl, hl, hm, by simpa using hz, hcell, hwz⟩⟩
  obtain ⟨a1, len1, cap1, rfl⟩ := okWide_slice Try.underlying30 (hval 1 30 v1 rfl rfl)
  have k1 := h1
  have lt1 : ∀ x ∈ p1, x.block < W.heap.size := by obtain ⟨m, hm⟩ := k1; exact DataW.trod_lt m _ _ _ hm
  obtain ⟨z1, w1⟩ : ∃ zs, IsRow .u8 W a1 len1 cap1 zs := by
    obtain ⟨fuel, hf⟩ := h1
    rcases open_ints Try.underlying30 Try.underlying5 (by kernel_rfl) hf with ⟨hcs, _⟩ | ⟨x, l, c, zs, hcs, _, hl, hm, hz, _, hcell, hwz⟩
    · simp [Value.cells] at hcs
      obtain ⟨rfl, rfl, rfl⟩ := hcs
      exact ⟨[], .inl ⟨rfl, rfl, rfl, rfl⟩⟩
    · simp [Value.cells] at hcs
      obtain ⟨rfl, rfl, rfl⟩ := hcs
      exact ⟨zs, .inr ⟨_, rfl, hl, hm, by simpa using hz, hcell, hwz⟩⟩
  clear hA0 hval0
  refine (walk a0 len0 cap0 z0 a1 len1 cap1 z1 W w0 w1).mono fun e W' ⟨he, bel⟩ => ?_
  subst he
  exact ⟨_, rfl, _, _, _, [], _, [], hW', trodAll_mk1 (shut_bool Try.underlying4 _), (trodAll_cons_mk (Below.trod laidOut (by kernel_rfl) (of_decide_eq_true (by kernel_rfl)) k0 bel lt0) (trodAll_cons_mk (Below.trod laidOut (by kernel_rfl) (of_decide_eq_true (by kernel_rfl)) k1 bel lt1) trodAll_mk0)), rfl, bel.frame _, fun h => by cases h⟩

theorem closed : joinedFacts Try.prog 16 Try.f16 Rows.fnRangesCountAddSpec Rows.fnRangesCountAddRow = true := by
  unfold joinedFacts
  rw [mayEnter_ok, lifts_ok, make_ok]
  kernel_rfl

theorem over : Rows.fnRangesCountAddRow.holds Try.pinned (OpenSpec.ofChange Rows.fnRangesCountAddSpec) :=
  OpenClaim.holds_of_wide 16 Try.f16 rfl rfl rfl rfl rfl rfl rfl ⟨rfl, rfl, rfl, rfl, rfl⟩ rfl rfl rfl rfl rfl (by kernel_rfl) Try.func16 closed
    (of_decide_eq_true (by kernel_rfl)) (by unfold Func.isWrapper; first | (rw [if_pos (by decide +kernel)]; kernel_rfl) | (rw [if_neg (by decide +kernel)]; exact ⟨rfl, rfl⟩))
    (fun os started H enc _ => lifted os started H enc)

/-- ████ THE STATEMENT ████ -/
theorem proved : Rows.FnRangesCountAddSaid := over
#print axioms proved
end Go.Proofs.Ytclfkkapahdgaaa.fnRangesCountAdd
