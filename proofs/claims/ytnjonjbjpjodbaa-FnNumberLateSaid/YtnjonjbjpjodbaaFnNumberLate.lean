/- Proved: the law FnNumberLate returns true for every input and leaves its arguments as they were: A late packet number is recovered. (P25) No condition. -/
import Derived.Test.YtnjonjbjpjodbaaRows
import Derived.WalkKit
import Derived.ProofKit
import Derived.OpenShut
import Derived.ShutString
import Derived.ChangeOld
import Derived.Below
import Derived.Test.YtnjonjbjpjodbaaHead
import Derived.Test.YtnjonjbjpjodbaaNExp
import Derived.Test.YtnjonjbjpjodbaaNDraw
namespace Go.Proofs.Ytnjonjbjpjodbaa.fnNumberLate
open Go.ChangeShapes Go.WideShapes Go.ChangeAt Go.RowKit
open Go.ChangeMaps (open_string shut_string)
set_option linter.unusedVariables false

theorem own : ownKnob Try.prog.godebug = none := by kernel_rfl
theorem laidOut : laidOutB Try.prog = true := by kernel_rfl

set_option maxHeartbeats 800000
theorem late_4 (f : Int) (h0 : 0 ≤ f) (h1 : f ≤ 999) (q : Int) (hq0 : 0 ≤ q) (hq1 : q < 7) : nexp (if f + q ≤ 999 then f + q else 999) (f % 16) 4 = f := by
  have e : nsz 4 = 16 := rfl
  split
  · rw [nexp_ok _ _ 4 (by omega) (by omega) (by rw [e]; decide) (by omega) (by rw [e]; omega), e]
    unfold ncore; split <;> omega
  · rw [nexp_ok _ _ 4 (by omega) (by omega) (by rw [e]; decide) (by omega) (by rw [e]; omega), e]
    unfold ncore; split <;> omega
theorem late_8 (f : Int) (h0 : 0 ≤ f) (h1 : f ≤ 999) (q : Int) (hq0 : 0 ≤ q) (hq1 : q < 127) : nexp (if f + q ≤ 999 then f + q else 999) (f % 256) 8 = f := by
  have e : nsz 8 = 256 := rfl
  split
  · rw [nexp_ok _ _ 8 (by omega) (by omega) (by rw [e]; decide) (by omega) (by rw [e]; omega), e]
    unfold ncore; split <;> omega
  · rw [nexp_ok _ _ 8 (by omega) (by omega) (by rw [e]; decide) (by omega) (by rw [e]; omega), e]
    unfold ncore; split <;> omega
theorem late_12 (f : Int) (h0 : 0 ≤ f) (h1 : f ≤ 999) (q : Int) (hq0 : 0 ≤ q) (hq1 : q < 127) : nexp (if f + q ≤ 999 then f + q else 999) (f % 4096) 12 = f := by
  have e : nsz 12 = 4096 := rfl
  split
  · rw [nexp_ok _ _ 12 (by omega) (by omega) (by rw [e]; decide) (by omega) (by rw [e]; omega), e]
    unfold ncore; split <;> omega
  · rw [nexp_ok _ _ 12 (by omega) (by omega) (by rw [e]; decide) (by omega) (by rw [e]; omega), e]
    unfold ncore; split <;> omega

theorem walk (a0 : Option Addr) (len0 cap0 : Nat) (z0 : List Int) (a1 : Option Addr) (len1 cap1 : Nat) (z1 : List Int) (w : World) (w0 : IsRow .u8 w a0 len0 cap0 z0) (w1 : IsRow .u8 w a1 len1 cap1 z1) :
    Calls Try.prog 9 #[.slice a0 len0 cap0, .slice a1 len1 cap1] w fun e w' => e = .returned (.bool true) ∧ Below w.heap.size w w' := by
  have hc := codeArg_of w0
  have hc' := codeArg_of w1
  have hl := hc.1
  have hm := hc.2.1
  have hl' := hc'.1
  have hm' := hc'.2.1
  have HC := Lib.hid hc
  have HC' := Lib.hid hc'
  clear w0 w1 hc hc'
  by_cases h1 : len0 ≤ 1048576
  · by_cases h2 : len1 ≤ 1048576
    · go_enter Try.func9, Try.ntmps9
      go_wp2_with fail
      refine (drawTrunc_any a0 len0 cap0 w HC.out).mono ?_
      rintro e w1 ⟨f, b, rfl, hf0, hf1, hb0, hb1, hB⟩
      by_cases hf : 0 ≤ f ∧ f ≤ 999
      · obtain ⟨h0, h1⟩ := hf
        rcases nsz_cases b with ⟨rfl, e⟩ | ⟨rfl, e⟩ | ⟨rfl, e⟩ | ⟨g1, g2, g3, e⟩
        · have E := ntrunc_ok f 4 h0 h1 (by rw [e]; decide)
          rw [e] at E
          clear e
          have X := late_4 f h0 h1
          obtain ⟨q, Q⟩ : ∃ q : Int, (len1 : Int) % 7 = q := ⟨_, rfl⟩
          have hq0 : 0 ≤ q := by omega
          have hq1 : q < 7 := by omega
          have X' := X q hq0 hq1
          clear X
          by_cases hc : f + q ≤ 999
          · rw [if_pos hc] at X'
            go_wp2_with (first | (go_at_call 15; refine (itrunc_any _ _ _).mono ?_; rintro e w' ⟨rfl, rfl⟩) | (go_at_call 14; refine (strunc_any _ _ _).mono ?_; rintro e w' ⟨rfl, rfl⟩) | (go_at_call 19; refine (iexp_any _ _ _ _).mono ?_; rintro e w' ⟨rfl, rfl⟩) | (go_at_call 18; refine (sexp_any _ _ _ _).mono ?_; rintro e w' ⟨rfl, rfl⟩))
            go_ret
            exact ⟨ret_bool (by first | rfl | (simp; done) | (simp; omega)), hB⟩
          · rw [if_neg hc] at X'
            go_wp2_with (first | (go_at_call 15; refine (itrunc_any _ _ _).mono ?_; rintro e w' ⟨rfl, rfl⟩) | (go_at_call 14; refine (strunc_any _ _ _).mono ?_; rintro e w' ⟨rfl, rfl⟩) | (go_at_call 19; refine (iexp_any _ _ _ _).mono ?_; rintro e w' ⟨rfl, rfl⟩) | (go_at_call 18; refine (sexp_any _ _ _ _).mono ?_; rintro e w' ⟨rfl, rfl⟩))
            go_ret
            exact ⟨ret_bool (by first | rfl | (simp; done) | (simp; omega)), hB⟩
        · have E := ntrunc_ok f 8 h0 h1 (by rw [e]; decide)
          rw [e] at E
          clear e
          have X := late_8 f h0 h1
          obtain ⟨q, Q⟩ : ∃ q : Int, (len1 : Int) % 127 = q := ⟨_, rfl⟩
          have hq0 : 0 ≤ q := by omega
          have hq1 : q < 127 := by omega
          have X' := X q hq0 hq1
          clear X
          by_cases hc : f + q ≤ 999
          · rw [if_pos hc] at X'
            go_wp2_with (first | (go_at_call 15; refine (itrunc_any _ _ _).mono ?_; rintro e w' ⟨rfl, rfl⟩) | (go_at_call 14; refine (strunc_any _ _ _).mono ?_; rintro e w' ⟨rfl, rfl⟩) | (go_at_call 19; refine (iexp_any _ _ _ _).mono ?_; rintro e w' ⟨rfl, rfl⟩) | (go_at_call 18; refine (sexp_any _ _ _ _).mono ?_; rintro e w' ⟨rfl, rfl⟩))
            go_ret
            exact ⟨ret_bool (by first | rfl | (simp; done) | (simp; omega)), hB⟩
          · rw [if_neg hc] at X'
            go_wp2_with (first | (go_at_call 15; refine (itrunc_any _ _ _).mono ?_; rintro e w' ⟨rfl, rfl⟩) | (go_at_call 14; refine (strunc_any _ _ _).mono ?_; rintro e w' ⟨rfl, rfl⟩) | (go_at_call 19; refine (iexp_any _ _ _ _).mono ?_; rintro e w' ⟨rfl, rfl⟩) | (go_at_call 18; refine (sexp_any _ _ _ _).mono ?_; rintro e w' ⟨rfl, rfl⟩))
            go_ret
            exact ⟨ret_bool (by first | rfl | (simp; done) | (simp; omega)), hB⟩
        · have E := ntrunc_ok f 12 h0 h1 (by rw [e]; decide)
          rw [e] at E
          clear e
          have X := late_12 f h0 h1
          obtain ⟨q, Q⟩ : ∃ q : Int, (len1 : Int) % 127 = q := ⟨_, rfl⟩
          have hq0 : 0 ≤ q := by omega
          have hq1 : q < 127 := by omega
          have X' := X q hq0 hq1
          clear X
          by_cases hc : f + q ≤ 999
          · rw [if_pos hc] at X'
            go_wp2_with (first | (go_at_call 15; refine (itrunc_any _ _ _).mono ?_; rintro e w' ⟨rfl, rfl⟩) | (go_at_call 14; refine (strunc_any _ _ _).mono ?_; rintro e w' ⟨rfl, rfl⟩) | (go_at_call 19; refine (iexp_any _ _ _ _).mono ?_; rintro e w' ⟨rfl, rfl⟩) | (go_at_call 18; refine (sexp_any _ _ _ _).mono ?_; rintro e w' ⟨rfl, rfl⟩))
            go_ret
            exact ⟨ret_bool (by first | rfl | (simp; done) | (simp; omega)), hB⟩
          · rw [if_neg hc] at X'
            go_wp2_with (first | (go_at_call 15; refine (itrunc_any _ _ _).mono ?_; rintro e w' ⟨rfl, rfl⟩) | (go_at_call 14; refine (strunc_any _ _ _).mono ?_; rintro e w' ⟨rfl, rfl⟩) | (go_at_call 19; refine (iexp_any _ _ _ _).mono ?_; rintro e w' ⟨rfl, rfl⟩) | (go_at_call 18; refine (sexp_any _ _ _ _).mono ?_; rintro e w' ⟨rfl, rfl⟩))
            go_ret
            exact ⟨ret_bool (by first | rfl | (simp; done) | (simp; omega)), hB⟩
        · have E := ntrunc_no f b (by omega)
          clear e
          go_wp2_with (first | (go_at_call 15; refine (itrunc_any _ _ _).mono ?_; rintro e w' ⟨rfl, rfl⟩) | (go_at_call 14; refine (strunc_any _ _ _).mono ?_; rintro e w' ⟨rfl, rfl⟩))
          go_ret
          exact ⟨ret_bool (by first | rfl | (simp; done) | (simp; omega)), hB⟩
      · have E := ntrunc_no f b (by omega)
        go_wp2_with (first | (go_at_call 15; refine (itrunc_any _ _ _).mono ?_; rintro e w' ⟨rfl, rfl⟩) | (go_at_call 14; refine (strunc_any _ _ _).mono ?_; rintro e w' ⟨rfl, rfl⟩))
        go_ret
        exact ⟨ret_bool (by first | rfl | (simp; done) | (simp; omega)), hB⟩
    · go_enter Try.func9, Try.ntmps9
      go_wp2
      go_ret
      exact ⟨rfl, Below.refl _ _⟩
  · go_enter Try.func9, Try.ntmps9
    go_wp2
    go_ret
    exact ⟨rfl, Below.refl _ _⟩

set_option maxRecDepth 100000 in
theorem lifted (os : Os) (started : os.Started) (H : Type) (enc : TypeId × Value → H) :
    ReturnsInHanded {} Try.checked os 9 .any (Rows.fnNumberLateSpec.pre6 enc Try.prog Try.f9 Rows.fnNumberLateRow.domain false) (Rows.fnNumberLateSpec.post enc Try.prog Try.f9 false true false false) := by
  refine returnsInHanded_of_change (C := Try.checked) own started (by kernel_rfl) Try.func9
    (ChangeSpec.witness6 (enc := enc) (C := Try.checked) false ⟨#[], #[.slice none 0 0, .slice none 0 0], []⟩ 8 (by kernel_rfl) (by kernel_rfl) (by kernel_rfl) (by kernel_rfl)) ?_
  intro W base args ds gs before hval0 hW hcnd _
  have hval : ∀ (j : Nat) t v, Try.f9.params[j]? = some t → args[j]? = some v → Value.okWide Try.prog W .any base t v := hval0
  have hW' := hW
  obtain ⟨p, q, hA0, hV, rfl, hfz, hnd⟩ := hW
  have hA : DataW.TrodAll enc Try.prog W 0 (fun _ => true) true Try.f9.params.toList args.toList ds p := hA0
  rw [Try.params9] at hA hval
  obtain ⟨v0, vs0, d0, ds0, p0, q0, hargs, rfl, rfl, h0, r0⟩ := trodAll_cons hA
  obtain ⟨v1, vs1, d1, ds1, p1, q1, rfl, rfl, rfl, h1, r1⟩ := trodAll_cons r0
  obtain ⟨rfl, rfl, rfl⟩ := trodAll_nil r1
  obtain rfl : args = #[v0, v1] := by cases args; simp_all
  obtain ⟨rfl, rfl⟩ := trodVars_none hV
  obtain ⟨a0, len0, cap0, rfl⟩ := okWide_slice Try.underlying26 (hval 0 26 v0 rfl rfl)
  have k0 := h0
  have lt0 : ∀ x ∈ p0, x.block < W.heap.size := by obtain ⟨m, hm⟩ := k0; exact DataW.trod_lt m _ _ _ hm
  obtain ⟨z0, w0⟩ : ∃ zs, IsRow .u8 W a0 len0 cap0 zs := by
    obtain ⟨fuel, hf⟩ := h0
    rcases open_ints Try.underlying26 Try.underlying5 (by kernel_rfl) hf with ⟨hcs, _⟩ | ⟨x, l, c, zs, hcs, _, hl, hm, hz, _, hcell, hwz⟩
    · simp [Value.cells] at hcs
      obtain ⟨rfl, rfl, rfl⟩ := hcs
      exact ⟨[], .inl ⟨rfl, rfl, rfl, rfl⟩⟩
    · simp [Value.cells] at hcs
      obtain ⟨rfl, rfl, rfl⟩ := hcs
      exact ⟨zs, .inr ⟨_, rfl, hl, hm, by simpa using hz, hcell, hwz⟩⟩
  obtain ⟨a1, len1, cap1, rfl⟩ := okWide_slice Try.underlying26 (hval 1 26 v1 rfl rfl)
  have k1 := h1
  have lt1 : ∀ x ∈ p1, x.block < W.heap.size := by obtain ⟨m, hm⟩ := k1; exact DataW.trod_lt m _ _ _ hm
  obtain ⟨z1, w1⟩ : ∃ zs, IsRow .u8 W a1 len1 cap1 zs := by
    obtain ⟨fuel, hf⟩ := h1
    rcases open_ints Try.underlying26 Try.underlying5 (by kernel_rfl) hf with ⟨hcs, _⟩ | ⟨x, l, c, zs, hcs, _, hl, hm, hz, _, hcell, hwz⟩
    · simp [Value.cells] at hcs
      obtain ⟨rfl, rfl, rfl⟩ := hcs
      exact ⟨[], .inl ⟨rfl, rfl, rfl, rfl⟩⟩
    · simp [Value.cells] at hcs
      obtain ⟨rfl, rfl, rfl⟩ := hcs
      exact ⟨zs, .inr ⟨_, rfl, hl, hm, by simpa using hz, hcell, hwz⟩⟩
  clear hA0 hval0
  refine (walk a0 len0 cap0 z0 a1 len1 cap1 z1 W w0 w1).mono fun e W' ⟨he, bel⟩ => ?_
  subst he
  exact ⟨_, rfl, _, _, _, [], _, [], hW', trodAll_mk1 (shut_bool Try.underlying4 _), (trodAll_cons_mk (Below.trod laidOut (by kernel_rfl) (of_decide_eq_true (by kernel_rfl)) k0 bel lt0) (trodAll_cons_mk (Below.trod laidOut (by kernel_rfl) (of_decide_eq_true (by kernel_rfl)) k1 bel lt1) trodAll_mk0)), rfl, bel.frame _, fun h => by cases h⟩

theorem closed : joinedFacts Try.prog 9 Try.f9 Rows.fnNumberLateSpec Rows.fnNumberLateRow = true := by
  unfold joinedFacts
  rw [mayEnter_ok, lifts_ok, make_ok]
  kernel_rfl

theorem over : Rows.fnNumberLateRow.holds Try.pinned (OpenSpec.ofChange Rows.fnNumberLateSpec) :=
  OpenClaim.holds_of_wide 9 Try.f9 rfl rfl rfl rfl rfl rfl rfl ⟨rfl, rfl, rfl, rfl, rfl⟩ rfl rfl rfl rfl rfl (by kernel_rfl) Try.func9 closed
    (of_decide_eq_true (by kernel_rfl)) (by unfold Func.isWrapper; first | (rw [if_pos (by decide +kernel)]; kernel_rfl) | (rw [if_neg (by decide +kernel)]; exact ⟨rfl, rfl⟩))
    (fun os started H enc _ => lifted os started H enc)

/-- ████ THE STATEMENT ████ -/
theorem proved : Rows.FnNumberLateSaid := over
#print axioms proved
end Go.Proofs.Ytnjonjbjpjodbaa.fnNumberLate
