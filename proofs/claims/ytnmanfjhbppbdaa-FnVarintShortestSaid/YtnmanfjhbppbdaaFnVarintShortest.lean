/- Proved: the law FnVarintShortest returns true for every input and leaves its arguments as they were: No encoding is shorter. (P3) No condition. -/
import Derived.Test.YtnmanfjhbppbdaaRows
import Derived.WalkKit
import Derived.ProofKit
import Derived.OpenShut
import Derived.ShutString
import Derived.ChangeOld
import Derived.Below
import Derived.Test.YtnmanfjhbppbdaaHead
import Derived.Test.YtnmanfjhbppbdaaVLaw
namespace Go.Proofs.Ytnmanfjhbppbdaa.fnVarintShortest
open Go.ChangeShapes Go.WideShapes Go.ChangeAt Go.RowKit
open Go.ChangeMaps (open_string shut_string)
set_option linter.unusedVariables false

theorem own : ownKnob Try.prog.godebug = none := by kernel_rfl
theorem laidOut : laidOutB Try.prog = true := by kernel_rfl

/-- A number that is read takes no more bytes in its shortest encoding than it took. -/
theorem shortest (l : List UInt8) (h : fine l = true) : vlen (dnum l) ≤ (dsize l : Int) ∧ 0 < vlen (dnum l) := by
  have b := dnum_le l
  have e : dnum l = pre l (dsize l) := by unfold dnum; rw [if_pos h]
  have hp := dsize_pos l
  rw [h, decide_eq_true_eq] at hp
  rcases vlen_cases (dnum l) with ⟨g1, r⟩ | ⟨g1, r⟩ | ⟨g1, g2, r⟩ | ⟨g1, g2, r⟩ | ⟨g1, g2, r⟩
  · omega
  · omega
  · omega
  · rcases dsize_cases l with d | d | d | d
    · omega
    · have := pre_bd l 1 (by omega) (by omega); rw [d] at e; omega
    · omega
    · omega
  · rcases dsize_cases l with d | d | d | d
    · omega
    · have := pre_bd l 1 (by omega) (by omega); rw [d] at e; omega
    · have := pre_bd l 2 (by omega) (by omega); rw [d] at e; omega
    · omega

theorem walk (a0 : Option Addr) (len0 cap0 : Nat) (z0 : List Int) (w : World) (w0 : IsRow .u8 w a0 len0 cap0 z0) :
    Calls Try.prog 15 #[.slice a0 len0 cap0] w fun e w' => e = .returned (.bool true) ∧ Below w.heap.size w w' := by
  have hc := codeArg_of w0
  have hl := hc.1
  have hm := hc.2.1
  have HC := Lib.hid hc
  clear w0 hc
  by_cases h1 : len0 ≤ 1048576
  · go_enter Try.func15, Try.ntmps15
    go_wp2_with fail
    refine (drawDec_any a0 len0 cap0 w HC.out).mono ?_
    rintro e w1 ⟨s, rfl, hs, hB⟩
    by_cases hf : fine s.data.toList = true
    · obtain ⟨S1, S2⟩ := shortest _ hf
      go_wp2_with (first | (go_at_call 23; refine (idec_any _ _ (by omega)).mono ?_; rintro e w2 ⟨rfl, rfl⟩) | (go_at_call 22; refine (svdec_any _ _ (by omega)).mono ?_; rintro e w3 ⟨rfl, hB3⟩) | (go_at_call 21; refine (ilen_any _ _).mono ?_; rintro e w5 ⟨rfl, rfl⟩))
      go_ret
      exact ⟨ret_bool (by first | (simp; done) | (simp; omega)), drew2 hB hB3⟩
    · have hf' : fine s.data.toList = false := by simpa using hf
      clear hf
      go_wp2_with (first | (go_at_call 23; refine (idec_any _ _ (by omega)).mono ?_; rintro e w2 ⟨rfl, rfl⟩) | (go_at_call 22; refine (svdec_any _ _ (by omega)).mono ?_; rintro e w3 ⟨rfl, hB3⟩) | (go_at_call 21; refine (ilen_any _ _).mono ?_; rintro e w5 ⟨rfl, rfl⟩))
      go_ret
      exact ⟨rfl, drew2 hB hB3⟩
  · go_enter Try.func15, Try.ntmps15
    go_wp2
    go_ret
    exact ⟨rfl, Below.refl _ _⟩

set_option maxRecDepth 100000 in
theorem lifted (os : Os) (started : os.Started) (H : Type) (enc : TypeId × Value → H) :
    ReturnsInHanded {} Try.checked os 15 .any (Rows.fnVarintShortestSpec.pre6 enc Try.prog Try.f15 Rows.fnVarintShortestRow.domain false) (Rows.fnVarintShortestSpec.post enc Try.prog Try.f15 false true false false) := by
  refine returnsInHanded_of_change (C := Try.checked) own started (by kernel_rfl) Try.func15
    (ChangeSpec.witness6 (enc := enc) (C := Try.checked) false ⟨#[], #[.slice none 0 0], []⟩ 8 (by kernel_rfl) (by kernel_rfl) (by kernel_rfl) (by kernel_rfl)) ?_
  intro W base args ds gs before hval0 hW hcnd _
  have hval : ∀ (j : Nat) t v, Try.f15.params[j]? = some t → args[j]? = some v → Value.okWide Try.prog W .any base t v := hval0
  have hW' := hW
  obtain ⟨p, q, hA0, hV, rfl, hfz, hnd⟩ := hW
  have hA : DataW.TrodAll enc Try.prog W 0 (fun _ => true) true Try.f15.params.toList args.toList ds p := hA0
  rw [Try.params15] at hA hval
  obtain ⟨v0, vs0, d0, ds0, p0, q0, hargs, rfl, rfl, h0, r0⟩ := trodAll_cons hA
  obtain ⟨rfl, rfl, rfl⟩ := trodAll_nil r0
  obtain rfl : args = #[v0] := by cases args; simp_all
  obtain ⟨rfl, rfl⟩ := trodVars_none hV
  obtain ⟨a0, len0, cap0, rfl⟩ := okWide_slice Try.underlying28 (hval 0 28 v0 rfl rfl)
  have k0 := h0
  have lt0 : ∀ x ∈ p0, x.block < W.heap.size := by obtain ⟨m, hm⟩ := k0; exact DataW.trod_lt m _ _ _ hm
  obtain ⟨z0, w0⟩ : ∃ zs, IsRow .u8 W a0 len0 cap0 zs := by
    obtain ⟨fuel, hf⟩ := h0
    rcases open_ints Try.underlying28 Try.underlying5 (by kernel_rfl) hf with ⟨hcs, _⟩ | ⟨x, l, c, zs, hcs, _, hl, hm, hz, _, hcell, hwz⟩
    · simp [Value.cells] at hcs
      obtain ⟨rfl, rfl, rfl⟩ := hcs
      exact ⟨[], .inl ⟨rfl, rfl, rfl, rfl⟩⟩
    · simp [Value.cells] at hcs
      obtain ⟨rfl, rfl, rfl⟩ := hcs
      exact ⟨zs, .inr ⟨_, rfl, hl, hm, by simpa using hz, hcell, hwz⟩⟩
  clear hA0 hval0
  refine (walk a0 len0 cap0 z0 W w0).mono fun e W' ⟨he, bel⟩ => ?_
  subst he
  exact ⟨_, rfl, _, _, _, [], _, [], hW', trodAll_mk1 (shut_bool Try.underlying4 _), (trodAll_cons_mk (Below.trod laidOut (by kernel_rfl) (of_decide_eq_true (by kernel_rfl)) k0 bel lt0) trodAll_mk0), rfl, bel.frame _, fun h => by cases h⟩

theorem closed : joinedFacts Try.prog 15 Try.f15 Rows.fnVarintShortestSpec Rows.fnVarintShortestRow = true := by
  unfold joinedFacts
  rw [mayEnter_ok, lifts_ok, make_ok]
  kernel_rfl

theorem over : Rows.fnVarintShortestRow.holds Try.pinned (OpenSpec.ofChange Rows.fnVarintShortestSpec) :=
  OpenClaim.holds_of_wide 15 Try.f15 rfl rfl rfl rfl rfl rfl rfl ⟨rfl, rfl, rfl, rfl, rfl⟩ rfl rfl rfl rfl rfl (by kernel_rfl) Try.func15 closed
    (of_decide_eq_true (by kernel_rfl)) (by unfold Func.isWrapper; first | (rw [if_pos (by decide +kernel)]; kernel_rfl) | (rw [if_neg (by decide +kernel)]; exact ⟨rfl, rfl⟩))
    (fun os started H enc _ => lifted os started H enc)

/-- ████ THE STATEMENT ████ -/
theorem proved : Rows.FnVarintShortestSaid := over
#print axioms proved
end Go.Proofs.Ytnmanfjhbppbdaa.fnVarintShortest
