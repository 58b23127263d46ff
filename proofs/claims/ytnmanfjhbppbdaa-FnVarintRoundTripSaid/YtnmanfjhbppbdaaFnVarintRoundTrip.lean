/- Proved: the law FnVarintRoundTrip returns true for every input and leaves its arguments as they were: An integer is decoded from its encoding. (P1) No condition. -/
import Derived.Test.YtnmanfjhbppbdaaRows
import Derived.WalkKit
import Derived.ProofKit
import Derived.OpenShut
import Derived.ShutString
import Derived.ChangeOld
import Derived.Below
import Derived.Test.YtnmanfjhbppbdaaHead
import Derived.Test.YtnmanfjhbppbdaaVLaw
namespace Go.Proofs.Ytnmanfjhbppbdaa.fnVarintRoundTrip
open Go.ChangeShapes Go.WideShapes Go.ChangeAt Go.RowKit
open Go.ChangeMaps (open_string shut_string)
set_option linter.unusedVariables false

theorem own : ownKnob Try.prog.godebug = none := by kernel_rfl
theorem laidOut : laidOutB Try.prog = true := by kernel_rfl

theorem walk (a0 : Option Addr) (len0 cap0 : Nat) (z0 : List Int) (a1 : Option Addr) (len1 cap1 : Nat) (z1 : List Int) (w : World) (w0 : IsRow .u8 w a0 len0 cap0 z0) (w1 : IsRow .u8 w a1 len1 cap1 z1) :
    Calls Try.prog 14 #[.slice a0 len0 cap0, .slice a1 len1 cap1] w fun e w' => e = .returned (.bool true) ∧ Below w.heap.size w w' := by
  have hc := codeArg_of w0
  have hc' := codeArg_of w1
  have hl := hc.1
  have hm := hc.2.1
  have hl' := hc'.1
  have hm' := hc'.2.1
  have HC := Lib.hid hc
  have HC' := Lib.hid hc'
  clear w0 w1 hc hc'
  by_cases h1 : len0 ≤ 1048576
  · by_cases h2 : len1 ≤ 1048576
    · go_enter Try.func14, Try.ntmps14
      go_wp2_with fail
      refine (drawEnc_any a0 len0 cap0 w HC.out).mono ?_
      rintro e w1 ⟨n, rfl, hB⟩
      by_cases hn : 0 ≤ n ∧ n ≤ 1073741823
      · obtain ⟨t, ht, hconv⟩ := conv_arg HC'.out
        have E := isEmpty_venc n hn
        have hv := venc_len n
        have F := venc_length n
        have hconv' := Lib.hid hconv
        clear hconv
        have hrd := Lib.hid (read_venc n hn.1 hn.2 t.data.toList)
        have cat : ∀ W, (Op.stringOp .add ⟨(venc n).toArray⟩ t).run Try.prog W = .ok (.string (⟨(venc n).toArray⟩ ++ t)) W := fun W => run_string_add_sum W _ _ (by rw [size_text (venc n)]; omega)
        go_wp2_with (go_at_call 27; refine (iencode_any _ _).mono ?_; rintro e w2 ⟨rfl, hB2⟩)
        refine (sencode_any _ _).mono ?_
        rintro e w3 ⟨rfl, hB3⟩
        have cv := hconv'.out w3 (drew2 hB (drew2 hB2 hB3))
        have hBB := Lib.hid (drew2 hB (drew2 hB2 hB3))
        clear hB hB2 hB3
        go_wp2_with fail
        have hdec := idec_of (⟨(venc n).toArray⟩ ++ t) w3 (by rw [ByteArray.size_append, size_text (venc n)]; omega) n (vlen n) true (by rw [text_append]; exact hrd.out.1) (by rw [text_append]; exact hrd.out.2.1) (by rw [text_append]; exact hrd.out.2.2)
        with_reducible refine hdec.mono ?_
        clear hdec
        rintro e w4 ⟨rfl, rfl⟩
        go_wp2_with (go_at_call 21; refine (ilen_any _ _).mono ?_; rintro e w5 ⟨rfl, rfl⟩)
        go_ret
        exact ⟨ret_bool (by first | rfl | (simp; done) | (simp; omega)), hBB.out⟩
      · have E := venc_0 n (by omega)
        go_wp2_with (first | (go_at_call 26; refine (sencode_any _ _).mono ?_; rintro e w3 ⟨rfl, hB3⟩) | (go_at_call 27; refine (iencode_any _ _).mono ?_; rintro e w2 ⟨rfl, hB2⟩))
        go_ret
        exact ⟨rfl, drew2 hB (drew2 hB2 hB3)⟩
    · go_enter Try.func14, Try.ntmps14
      go_wp2
      go_ret
      exact ⟨rfl, Below.refl _ _⟩
  · go_enter Try.func14, Try.ntmps14
    go_wp2
    go_ret
    exact ⟨rfl, Below.refl _ _⟩

set_option maxRecDepth 100000 in
theorem lifted (os : Os) (started : os.Started) (H : Type) (enc : TypeId × Value → H) :
    ReturnsInHanded {} Try.checked os 14 .any (Rows.fnVarintRoundTripSpec.pre6 enc Try.prog Try.f14 Rows.fnVarintRoundTripRow.domain false) (Rows.fnVarintRoundTripSpec.post enc Try.prog Try.f14 false true false false) := by
  refine returnsInHanded_of_change (C := Try.checked) own started (by kernel_rfl) Try.func14
    (ChangeSpec.witness6 (enc := enc) (C := Try.checked) false ⟨#[], #[.slice none 0 0, .slice none 0 0], []⟩ 8 (by kernel_rfl) (by kernel_rfl) (by kernel_rfl) (by kernel_rfl)) ?_
  intro W base args ds gs before hval0 hW hcnd _
  have hval : ∀ (j : Nat) t v, Try.f14.params[j]? = some t → args[j]? = some v → Value.okWide Try.prog W .any base t v := hval0
  have hW' := hW
  obtain ⟨p, q, hA0, hV, rfl, hfz, hnd⟩ := hW
  have hA : DataW.TrodAll enc Try.prog W 0 (fun _ => true) true Try.f14.params.toList args.toList ds p := hA0
  rw [Try.params14] at hA hval
  obtain ⟨v0, vs0, d0, ds0, p0, q0, hargs, rfl, rfl, h0, r0⟩ := trodAll_cons hA
  obtain ⟨v1, vs1, d1, ds1, p1, q1, rfl, rfl, rfl, h1, r1⟩ := trodAll_cons r0
  obtain ⟨rfl, rfl, rfl⟩ := trodAll_nil r1
  obtain rfl : args = #[v0, v1] := by cases args; simp_all
  obtain ⟨rfl, rfl⟩ := trodVars_none hV
  obtain ⟨a0, len0, cap0, rfl⟩ := okWide_slice Try.underlying28 (hval 0 28 v0 rfl rfl)
  have k0 := h0
  have lt0 : ∀ x ∈ p0, x.block < W.heap.size := by obtain ⟨m, hm⟩ := k0; exact DataW.trod_lt m _ _ _ hm
  obtain ⟨z0, w0⟩ : ∃ zs, IsRow .u8 W a0 len0 cap0 zs := by
    obtain ⟨fuel, hf⟩ := h0
    rcases open_ints Try.underlying28 Try.underlying5 (by kernel_rfl) hf with ⟨hcs, _⟩ | ⟨x, l, c, zs, hcs, _, hl, hm, hz, _, hcell, hwz⟩
    · simp [Value.cells] at hcs
      obtain ⟨rfl, rfl, rfl⟩ := hcs
      exact ⟨[], .inl ⟨rfl, rfl, rfl, rfl⟩⟩
    · simp [Value.cells] at hcs
      obtain ⟨rfl, rfl, rfl⟩ := hcs
      exact ⟨zs, .inr ⟨_, rfl, hl, hm, by simpa using hz, hcell, hwz⟩⟩
  obtain ⟨a1, len1, cap1, rfl⟩ := okWide_slice Try.underlying28 (hval 1 28 v1 rfl rfl)
  have k1 := h1
  have lt1 : ∀ x ∈ p1, x.block < W.heap.size := by obtain ⟨m, hm⟩ := k1; exact DataW.trod_lt m _ _ _ hm
  obtain ⟨z1, w1⟩ : ∃ zs, IsRow .u8 W a1 len1 cap1 zs := by
    obtain ⟨fuel, hf⟩ := h1
    rcases open_ints Try.underlying28 Try.underlying5 (by kernel_rfl) hf with ⟨hcs, _⟩ | ⟨x, l, c, zs, hcs, _, hl, hm, hz, _, hcell, hwz⟩
    · simp [Value.cells] at hcs
      obtain ⟨rfl, rfl, rfl⟩ := hcs
      exact ⟨[], .inl ⟨rfl, rfl, rfl, rfl⟩⟩
    · simp [Value.cells] at hcs
      obtain ⟨rfl, rfl, rfl⟩ := hcs
      exact ⟨zs, .inr ⟨_, rfl, hl, hm, by simpa using hz, hcell, hwz⟩⟩
  clear hA0 hval0
  refine (walk a0 len0 cap0 z0 a1 len1 cap1 z1 W w0 w1).mono fun e W' ⟨he, bel⟩ => ?_
  subst he
  exact ⟨_, rfl, _, _, _, [], _, [], hW', trodAll_mk1 (shut_bool Try.underlying4 _), (trodAll_cons_mk (Below.trod laidOut (by kernel_rfl) (of_decide_eq_true (by kernel_rfl)) k0 bel lt0) (trodAll_cons_mk (Below.trod laidOut (by kernel_rfl) (of_decide_eq_true (by kernel_rfl)) k1 bel lt1) trodAll_mk0)), rfl, bel.frame _, fun h => by cases h⟩

theorem closed : joinedFacts Try.prog 14 Try.f14 Rows.fnVarintRoundTripSpec Rows.fnVarintRoundTripRow = true := by
  unfold joinedFacts
  rw [mayEnter_ok, lifts_ok, make_ok]
  kernel_rfl

theorem over : Rows.fnVarintRoundTripRow.holds Try.pinned (OpenSpec.ofChange Rows.fnVarintRoundTripSpec) :=
  OpenClaim.holds_of_wide 14 Try.f14 rfl rfl rfl rfl rfl rfl rfl ⟨rfl, rfl, rfl, rfl, rfl⟩ rfl rfl rfl rfl rfl (by kernel_rfl) Try.func14 closed
    (of_decide_eq_true (by kernel_rfl)) (by unfold Func.isWrapper; first | (rw [if_pos (by decide +kernel)]; kernel_rfl) | (rw [if_neg (by decide +kernel)]; exact ⟨rfl, rfl⟩))
    (fun os started H enc _ => lifted os started H enc)

/-- ████ THE STATEMENT ████ -/
theorem proved : Rows.FnVarintRoundTripSaid := over
#print axioms proved
end Go.Proofs.Ytnmanfjhbppbdaa.fnVarintRoundTrip
