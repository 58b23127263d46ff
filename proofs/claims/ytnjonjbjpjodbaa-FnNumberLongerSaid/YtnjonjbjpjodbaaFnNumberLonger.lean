/- Proved: the law FnNumberLonger returns true for every input and leaves its arguments as they were: More bits recover the number, too. (P31) No condition. -/
import Derived.Test.YtnjonjbjpjodbaaRows
import Derived.WalkKit
import Derived.ProofKit
import Derived.OpenShut
import Derived.ShutString
import Derived.ChangeOld
import Derived.Below
import Derived.Test.YtnjonjbjpjodbaaHead
import Derived.Test.YtnjonjbjpjodbaaNExp
import Derived.Test.YtnjonjbjpjodbaaNDraw
namespace Go.Proofs.Ytnjonjbjpjodbaa.fnNumberLonger
open Go.ChangeShapes Go.WideShapes Go.ChangeAt Go.RowKit
open Go.ChangeMaps (open_string shut_string)
set_option linter.unusedVariables false

theorem own : ownKnob Try.prog.godebug = none := by kernel_rfl
theorem laidOut : laidOutB Try.prog = true := by kernel_rfl

set_option maxHeartbeats 800000
theorem near_4 (f g : Int) (h0 : 0 ≤ f) (h1 : f ≤ 999) (hg0 : -1 ≤ g) (hg1 : g < f) (hd : 2 * (f - g) < 16) : nexp g (f % 16) 4 = f := by
  have e : nsz 4 = 16 := rfl
  rw [nexp_ok _ _ 4 (by omega) (by omega) (by rw [e]; decide) (by omega) (by rw [e]; omega), e]
  unfold ncore; split <;> omega
theorem near_8 (f g : Int) (h0 : 0 ≤ f) (h1 : f ≤ 999) (hg0 : -1 ≤ g) (hg1 : g < f) (hd : 2 * (f - g) < 256) : nexp g (f % 256) 8 = f := by
  have e : nsz 8 = 256 := rfl
  rw [nexp_ok _ _ 8 (by omega) (by omega) (by rw [e]; decide) (by omega) (by rw [e]; omega), e]
  unfold ncore; split <;> omega
theorem near_12 (f g : Int) (h0 : 0 ≤ f) (h1 : f ≤ 999) (hg0 : -1 ≤ g) (hg1 : g < f) (hd : 2 * (f - g) < 4096) : nexp g (f % 4096) 12 = f := by
  have e : nsz 12 = 4096 := rfl
  rw [nexp_ok _ _ 12 (by omega) (by omega) (by rw [e]; decide) (by omega) (by rw [e]; omega), e]
  unfold ncore; split <;> omega

theorem walk (a0 : Option Addr) (len0 cap0 : Nat) (z0 : List Int) (w : World) (w0 : IsRow .u8 w a0 len0 cap0 z0) :
    Calls Try.prog 10 #[.slice a0 len0 cap0] w fun e w' => e = .returned (.bool true) ∧ Below w.heap.size w w' := by
  have hc := codeArg_of w0
  have hl := hc.1
  have hm := hc.2.1
  have HC := Lib.hid hc
  clear w0 hc
  by_cases h1 : len0 ≤ 1048576
  · go_enter Try.func10, Try.ntmps10
    go_wp2_with fail
    refine (drawBits_any a0 len0 cap0 w HC.out).mono ?_
    rintro e w1 ⟨f, a, rfl, hf0, hf1, ha0, ha1, hB⟩
    rcases nbits_cases f a with ⟨E, h⟩ | ⟨h1, h2, h3, h⟩
    · clear h
      go_wp2_with (first | (go_at_call 17; refine (ibits_any _ _ _).mono ?_; rintro e w' ⟨rfl, rfl⟩) | (go_at_call 16; refine (sbits_any _ _ _).mono ?_; rintro e w' ⟨rfl, rfl⟩))
      go_ret
      exact ⟨ret_bool (by first | rfl | (simp; done) | (simp; omega)), hB⟩
    · rcases h with ⟨E, g⟩ | ⟨E, g, g'⟩ | ⟨E, g⟩
      · have T : ntrunc f 8 = f % 256 := ntrunc_ok f 8 (by omega) h3 (by decide)
        have X := near_8 f a (by omega) h3 h1 (by omega) (by omega)
        go_wp2_with (first | (go_at_call 17; refine (ibits_any _ _ _).mono ?_; rintro e w' ⟨rfl, rfl⟩) | (go_at_call 16; refine (sbits_any _ _ _).mono ?_; rintro e w' ⟨rfl, rfl⟩) | (go_at_call 15; refine (itrunc_any _ _ _).mono ?_; rintro e w' ⟨rfl, rfl⟩) | (go_at_call 14; refine (strunc_any _ _ _).mono ?_; rintro e w' ⟨rfl, rfl⟩) | (go_at_call 19; refine (iexp_any _ _ _ _).mono ?_; rintro e w' ⟨rfl, rfl⟩) | (go_at_call 18; refine (sexp_any _ _ _ _).mono ?_; rintro e w' ⟨rfl, rfl⟩))
        go_ret
        exact ⟨ret_bool (by first | rfl | (simp; done) | (simp; omega)), hB⟩
      · have T : ntrunc f 12 = f % 4096 := ntrunc_ok f 12 (by omega) h3 (by decide)
        have X := near_12 f a (by omega) h3 h1 (by omega) (by omega)
        go_wp2_with (first | (go_at_call 17; refine (ibits_any _ _ _).mono ?_; rintro e w' ⟨rfl, rfl⟩) | (go_at_call 16; refine (sbits_any _ _ _).mono ?_; rintro e w' ⟨rfl, rfl⟩) | (go_at_call 15; refine (itrunc_any _ _ _).mono ?_; rintro e w' ⟨rfl, rfl⟩) | (go_at_call 14; refine (strunc_any _ _ _).mono ?_; rintro e w' ⟨rfl, rfl⟩) | (go_at_call 19; refine (iexp_any _ _ _ _).mono ?_; rintro e w' ⟨rfl, rfl⟩) | (go_at_call 18; refine (sexp_any _ _ _ _).mono ?_; rintro e w' ⟨rfl, rfl⟩))
        go_ret
        exact ⟨ret_bool (by first | rfl | (simp; done) | (simp; omega)), hB⟩
      · go_wp2_with (first | (go_at_call 17; refine (ibits_any _ _ _).mono ?_; rintro e w' ⟨rfl, rfl⟩) | (go_at_call 16; refine (sbits_any _ _ _).mono ?_; rintro e w' ⟨rfl, rfl⟩))
        go_ret
        exact ⟨ret_bool (by first | rfl | (simp; done) | (simp; omega)), hB⟩
  · go_enter Try.func10, Try.ntmps10
    go_wp2
    go_ret
    exact ⟨rfl, Below.refl _ _⟩

set_option maxRecDepth 100000 in
theorem lifted (os : Os) (started : os.Started) (H : Type) (enc : TypeId × Value → H) :
    ReturnsInHanded {} Try.checked os 10 .any (Rows.fnNumberLongerSpec.pre6 enc Try.prog Try.f10 Rows.fnNumberLongerRow.domain false) (Rows.fnNumberLongerSpec.post enc Try.prog Try.f10 false true false false) := by
  refine returnsInHanded_of_change (C := Try.checked) own started (by kernel_rfl) Try.func10
    (ChangeSpec.witness6 (enc := enc) (C := Try.checked) false ⟨#[], #[.slice none 0 0], []⟩ 8 (by kernel_rfl) (by kernel_rfl) (by kernel_rfl) (by kernel_rfl)) ?_
  intro W base args ds gs before hval0 hW hcnd _
  have hval : ∀ (j : Nat) t v, Try.f10.params[j]? = some t → args[j]? = some v → Value.okWide Try.prog W .any base t v := hval0
  have hW' := hW
  obtain ⟨p, q, hA0, hV, rfl, hfz, hnd⟩ := hW
  have hA : DataW.TrodAll enc Try.prog W 0 (fun _ => true) true Try.f10.params.toList args.toList ds p := hA0
  rw [Try.params10] at hA hval
  obtain ⟨v0, vs0, d0, ds0, p0, q0, hargs, rfl, rfl, h0, r0⟩ := trodAll_cons hA
  obtain ⟨rfl, rfl, rfl⟩ := trodAll_nil r0
  obtain rfl : args = #[v0] := by cases args; simp_all
  obtain ⟨rfl, rfl⟩ := trodVars_none hV
  obtain ⟨a0, len0, cap0, rfl⟩ := okWide_slice Try.underlying26 (hval 0 26 v0 rfl rfl)
  have k0 := h0
  have lt0 : ∀ x ∈ p0, x.block < W.heap.size := by obtain ⟨m, hm⟩ := k0; exact DataW.trod_lt m _ _ _ hm
  obtain ⟨z0, w0⟩ : ∃ zs, IsRow .u8 W a0 len0 cap0 zs := by
    obtain ⟨fuel, hf⟩ := h0
    rcases open_ints Try.underlying26 Try.underlying5 (by kernel_rfl) hf with ⟨hcs, _⟩ | ⟨x, l, c, zs, hcs, _, hl, hm, hz, _, hcell, hwz⟩
    · simp [Value.cells] at hcs
      obtain ⟨rfl, rfl, rfl⟩ := hcs
      exact ⟨[], .inl ⟨rfl, rfl, rfl, rfl⟩⟩
    · simp [Value.cells] at hcs
      obtain ⟨rfl, rfl, rfl⟩ := hcs
      exact ⟨zs, .inr ⟨_, rfl, hl, hm, by simpa using hz, hcell, hwz⟩⟩
  clear hA0 hval0
  refine (walk a0 len0 cap0 z0 W w0).mono fun e W' ⟨he, bel⟩ => ?_
  subst he
  exact ⟨_, rfl, _, _, _, [], _, [], hW', trodAll_mk1 (shut_bool Try.underlying4 _), (trodAll_cons_mk (Below.trod laidOut (by kernel_rfl) (of_decide_eq_true (by kernel_rfl)) k0 bel lt0) trodAll_mk0), rfl, bel.frame _, fun h => by cases h⟩

theorem closed : joinedFacts Try.prog 10 Try.f10 Rows.fnNumberLongerSpec Rows.fnNumberLongerRow = true := by
  unfold joinedFacts
  rw [mayEnter_ok, lifts_ok, make_ok]
  kernel_rfl

theorem over : Rows.fnNumberLongerRow.holds Try.pinned (OpenSpec.ofChange Rows.fnNumberLongerSpec) :=
  OpenClaim.holds_of_wide 10 Try.f10 rfl rfl rfl rfl rfl rfl rfl ⟨rfl, rfl, rfl, rfl, rfl⟩ rfl rfl rfl rfl rfl (by kernel_rfl) Try.func10 closed
    (of_decide_eq_true (by kernel_rfl)) (by unfold Func.isWrapper; first | (rw [if_pos (by decide +kernel)]; kernel_rfl) | (rw [if_neg (by decide +kernel)]; exact ⟨rfl, rfl⟩))
    (fun os started H enc _ => lifted os started H enc)

/-- ████ THE STATEMENT ████ -/
theorem proved : Rows.FnNumberLongerSaid := over
#print axioms proved
end Go.Proofs.Ytnjonjbjpjodbaa.fnNumberLonger
