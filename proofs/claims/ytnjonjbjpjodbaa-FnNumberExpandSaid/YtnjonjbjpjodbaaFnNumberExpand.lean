/- Proved: the law FnNumberExpand returns true for every input and leaves its arguments as they were: An expanded number is near the expected one. (P29) No condition. -/
import Derived.Test.YtnjonjbjpjodbaaRows
import Derived.WalkKit
import Derived.ProofKit
import Derived.OpenShut
import Derived.ShutString
import Derived.ChangeOld
import Derived.Below
import Derived.Test.YtnjonjbjpjodbaaHead
import Derived.Test.YtnjonjbjpjodbaaNExp
import Derived.Test.YtnjonjbjpjodbaaNDrawE
namespace Go.Proofs.Ytnjonjbjpjodbaa.fnNumberExpand
open Go.ChangeShapes Go.WideShapes Go.ChangeAt Go.RowKit
open Go.ChangeMaps (open_string shut_string)
set_option linter.unusedVariables false

theorem own : ownKnob Try.prog.godebug = none := by kernel_rfl
theorem laidOut : laidOutB Try.prog = true := by kernel_rfl

set_option maxHeartbeats 1600000
theorem core_4 (g v : Int) (h0 : -1 ≤ g) (h1 : g ≤ 999) (h2 : 0 ≤ v) (h3 : v < 16) : ∃ c : Int, nexp g v 4 = c ∧ 0 ≤ c ∧ c ≤ 10000 ∧ c % 16 = v ∧ g + 1 - 8 < c ∧ (c = v ∨ c ≤ g + 1 + 8) := by
  have e : nsz 4 = 16 := rfl
  refine ⟨_, nexp_ok _ _ 4 h0 h1 (by rw [e]; decide) h2 (by rw [e]; exact h3), ?_⟩
  rw [e]
  unfold ncore
  split <;> omega
theorem shift_4 (g v : Int) (h0 : 16 ≤ g) (h1 : g + 16 ≤ 999) (h2 : 0 ≤ v) (h3 : v < 16) : nexp (g + 16) v 4 = nexp g v 4 + 16 := by
  have e : nsz 4 = 16 := rfl
  rw [nexp_ok _ _ 4 (by omega) (by omega) (by rw [e]; decide) h2 (by rw [e]; exact h3), nexp_ok _ _ 4 (by omega) (by omega) (by rw [e]; decide) h2 (by rw [e]; exact h3), e]
  unfold ncore
  (repeat' split) <;> omega
theorem core_8 (g v : Int) (h0 : -1 ≤ g) (h1 : g ≤ 999) (h2 : 0 ≤ v) (h3 : v < 256) : ∃ c : Int, nexp g v 8 = c ∧ 0 ≤ c ∧ c ≤ 10000 ∧ c % 256 = v ∧ g + 1 - 128 < c ∧ (c = v ∨ c ≤ g + 1 + 128) := by
  have e : nsz 8 = 256 := rfl
  refine ⟨_, nexp_ok _ _ 8 h0 h1 (by rw [e]; decide) h2 (by rw [e]; exact h3), ?_⟩
  rw [e]
  unfold ncore
  split <;> omega
theorem shift_8 (g v : Int) (h0 : 256 ≤ g) (h1 : g + 256 ≤ 999) (h2 : 0 ≤ v) (h3 : v < 256) : nexp (g + 256) v 8 = nexp g v 8 + 256 := by
  have e : nsz 8 = 256 := rfl
  rw [nexp_ok _ _ 8 (by omega) (by omega) (by rw [e]; decide) h2 (by rw [e]; exact h3), nexp_ok _ _ 8 (by omega) (by omega) (by rw [e]; decide) h2 (by rw [e]; exact h3), e]
  unfold ncore
  (repeat' split) <;> omega
theorem core_12 (g v : Int) (h0 : -1 ≤ g) (h1 : g ≤ 999) (h2 : 0 ≤ v) (h3 : v < 4096) : ∃ c : Int, nexp g v 12 = c ∧ 0 ≤ c ∧ c ≤ 10000 ∧ c % 4096 = v ∧ g + 1 - 2048 < c ∧ (c = v ∨ c ≤ g + 1 + 2048) := by
  have e : nsz 12 = 4096 := rfl
  refine ⟨_, nexp_ok _ _ 12 h0 h1 (by rw [e]; decide) h2 (by rw [e]; exact h3), ?_⟩
  rw [e]
  unfold ncore
  split <;> omega
theorem shift_12 (g v : Int) (h0 : 4096 ≤ g) (h1 : g + 4096 ≤ 999) (h2 : 0 ≤ v) (h3 : v < 4096) : nexp (g + 4096) v 12 = nexp g v 12 + 4096 := by
  have e : nsz 12 = 4096 := rfl
  rw [nexp_ok _ _ 12 (by omega) (by omega) (by rw [e]; decide) h2 (by rw [e]; exact h3), nexp_ok _ _ 12 (by omega) (by omega) (by rw [e]; decide) h2 (by rw [e]; exact h3), e]
  unfold ncore
  (repeat' split) <;> omega

theorem walk (a0 : Option Addr) (len0 cap0 : Nat) (z0 : List Int) (w : World) (w0 : IsRow .u8 w a0 len0 cap0 z0) :
    Calls Try.prog 12 #[.slice a0 len0 cap0] w fun e w' => e = .returned (.bool true) ∧ Below w.heap.size w w' := by
  have hc := codeArg_of w0
  have hl := hc.1
  have hm := hc.2.1
  have HC := Lib.hid hc
  clear w0 hc
  by_cases h1 : len0 ≤ 1048576
  · go_enter Try.func12, Try.ntmps12
    go_wp2_with fail
    refine (drawExp_any a0 len0 cap0 w HC.out).mono ?_
    rintro e w1 ⟨g, v, b, rfl, hf0, hf1, hv0, hv1, hb0, hb1, hB⟩
    by_cases hok : -1 ≤ g ∧ g ≤ 999 ∧ nsz b ≠ 0 ∧ 0 ≤ v ∧ v < nsz b
    · obtain ⟨h0, h1, hb, h2, h3⟩ := hok
      rcases nsz_cases b with ⟨rfl, e⟩ | ⟨rfl, e⟩ | ⟨rfl, e⟩ | ⟨g1, g2, g3, e⟩
      · rw [e] at h3
        clear hb e
        obtain ⟨c, C, c0, c1, c2, c3, c4⟩ := core_4 g v h0 h1 h2 h3
        have C2 := Lib.hid c2
        clear c2
        by_cases d : c = v
        · have D : (c == v) = true := beq_iff_eq.2 d
          have d4 := Lib.hid d
          have c2 : (c % 16 == v) = true := beq_iff_eq.2 C2.out
          clear d c4
          go_wp2_with (first | (go_at_call 19; refine (iexp_any _ _ _ _).mono ?_; rintro e w' ⟨rfl, rfl⟩) | (go_at_call 18; refine (sexp_any _ _ _ _).mono ?_; rintro e w' ⟨rfl, rfl⟩))
          refine wp_loop_rounds 5 ?_
          iterate 5 (rw [rounds_succ]; go_wp2)
          go_ret
          exact ⟨ret_bool (by first | rfl | (simp; done) | (simp; omega)), hB⟩
        · have D : (c == v) = false := beq_eq_false_iff_ne.2 d
          have c5 : c ≤ g + 1 + 8 := by omega
          have c2 : (c % 16 == v) = true := beq_iff_eq.2 C2.out
          clear d c4
          go_wp2_with (first | (go_at_call 19; refine (iexp_any _ _ _ _).mono ?_; rintro e w' ⟨rfl, rfl⟩) | (go_at_call 18; refine (sexp_any _ _ _ _).mono ?_; rintro e w' ⟨rfl, rfl⟩))
          refine wp_loop_rounds 5 ?_
          iterate 5 (rw [rounds_succ]; go_wp2)
          go_ret
          exact ⟨ret_bool (by first | rfl | (simp; done) | (simp; omega)), hB⟩
      · rw [e] at h3
        clear hb e
        obtain ⟨c, C, c0, c1, c2, c3, c4⟩ := core_8 g v h0 h1 h2 h3
        have C2 := Lib.hid c2
        clear c2
        by_cases d : c = v
        · have D : (c == v) = true := beq_iff_eq.2 d
          have d4 := Lib.hid d
          have c2 : (c % 256 == v) = true := beq_iff_eq.2 C2.out
          clear d c4
          go_wp2_with (first | (go_at_call 19; refine (iexp_any _ _ _ _).mono ?_; rintro e w' ⟨rfl, rfl⟩) | (go_at_call 18; refine (sexp_any _ _ _ _).mono ?_; rintro e w' ⟨rfl, rfl⟩))
          refine wp_loop_rounds 9 ?_
          iterate 9 (rw [rounds_succ]; go_wp2)
          go_ret
          exact ⟨ret_bool (by first | rfl | (simp; done) | (simp; omega)), hB⟩
        · have D : (c == v) = false := beq_eq_false_iff_ne.2 d
          have c5 : c ≤ g + 1 + 128 := by omega
          have c2 : (c % 256 == v) = true := beq_iff_eq.2 C2.out
          clear d c4
          go_wp2_with (first | (go_at_call 19; refine (iexp_any _ _ _ _).mono ?_; rintro e w' ⟨rfl, rfl⟩) | (go_at_call 18; refine (sexp_any _ _ _ _).mono ?_; rintro e w' ⟨rfl, rfl⟩))
          refine wp_loop_rounds 9 ?_
          iterate 9 (rw [rounds_succ]; go_wp2)
          go_ret
          exact ⟨ret_bool (by first | rfl | (simp; done) | (simp; omega)), hB⟩
      · rw [e] at h3
        clear hb e
        obtain ⟨c, C, c0, c1, c2, c3, c4⟩ := core_12 g v h0 h1 h2 h3
        have C2 := Lib.hid c2
        clear c2
        by_cases d : c = v
        · have D : (c == v) = true := beq_iff_eq.2 d
          have d4 := Lib.hid d
          have c2 : (c % 4096 == v) = true := beq_iff_eq.2 C2.out
          clear d c4
          go_wp2_with (first | (go_at_call 19; refine (iexp_any _ _ _ _).mono ?_; rintro e w' ⟨rfl, rfl⟩) | (go_at_call 18; refine (sexp_any _ _ _ _).mono ?_; rintro e w' ⟨rfl, rfl⟩))
          refine wp_loop_rounds 13 ?_
          iterate 13 (rw [rounds_succ]; go_wp2)
          go_ret
          exact ⟨ret_bool (by first | rfl | (simp; done) | (simp; omega)), hB⟩
        · have D : (c == v) = false := beq_eq_false_iff_ne.2 d
          have c5 : c ≤ g + 1 + 2048 := by omega
          have c2 : (c % 4096 == v) = true := beq_iff_eq.2 C2.out
          clear d c4
          go_wp2_with (first | (go_at_call 19; refine (iexp_any _ _ _ _).mono ?_; rintro e w' ⟨rfl, rfl⟩) | (go_at_call 18; refine (sexp_any _ _ _ _).mono ?_; rintro e w' ⟨rfl, rfl⟩))
          refine wp_loop_rounds 13 ?_
          iterate 13 (rw [rounds_succ]; go_wp2)
          go_ret
          exact ⟨ret_bool (by first | rfl | (simp; done) | (simp; omega)), hB⟩
      · exact absurd e hb
    · have E := nexp_no g v b (by omega)
      clear hok
      go_wp2_with (first | (go_at_call 19; refine (iexp_any _ _ _ _).mono ?_; rintro e w' ⟨rfl, rfl⟩) | (go_at_call 18; refine (sexp_any _ _ _ _).mono ?_; rintro e w' ⟨rfl, rfl⟩))
      go_ret
      exact ⟨ret_bool (by first | rfl | (simp; done) | (simp; omega)), hB⟩
  · go_enter Try.func12, Try.ntmps12
    go_wp2
    go_ret
    exact ⟨rfl, Below.refl _ _⟩

set_option maxRecDepth 100000 in
theorem lifted (os : Os) (started : os.Started) (H : Type) (enc : TypeId × Value → H) :
    ReturnsInHanded {} Try.checked os 12 .any (Rows.fnNumberExpandSpec.pre6 enc Try.prog Try.f12 Rows.fnNumberExpandRow.domain false) (Rows.fnNumberExpandSpec.post enc Try.prog Try.f12 false true false false) := by
  refine returnsInHanded_of_change (C := Try.checked) own started (by kernel_rfl) Try.func12
    (ChangeSpec.witness6 (enc := enc) (C := Try.checked) false ⟨#[], #[.slice none 0 0], []⟩ 8 (by kernel_rfl) (by kernel_rfl) (by kernel_rfl) (by kernel_rfl)) ?_
  intro W base args ds gs before hval0 hW hcnd _
  have hval : ∀ (j : Nat) t v, Try.f12.params[j]? = some t → args[j]? = some v → Value.okWide Try.prog W .any base t v := hval0
  have hW' := hW
  obtain ⟨p, q, hA0, hV, rfl, hfz, hnd⟩ := hW
  have hA : DataW.TrodAll enc Try.prog W 0 (fun _ => true) true Try.f12.params.toList args.toList ds p := hA0
  rw [Try.params12] at hA hval
  obtain ⟨v0, vs0, d0, ds0, p0, q0, hargs, rfl, rfl, h0, r0⟩ := trodAll_cons hA
  obtain ⟨rfl, rfl, rfl⟩ := trodAll_nil r0
  obtain rfl : args = #[v0] := by cases args; simp_all
  obtain ⟨rfl, rfl⟩ := trodVars_none hV
  obtain ⟨a0, len0, cap0, rfl⟩ := okWide_slice Try.underlying26 (hval 0 26 v0 rfl rfl)
  have k0 := h0
  have lt0 : ∀ x ∈ p0, x.block < W.heap.size := by obtain ⟨m, hm⟩ := k0; exact DataW.trod_lt m _ _ _ hm
  obtain ⟨z0, w0⟩ : ∃ zs, IsRow .u8 W a0 len0 cap0 zs := by
    obtain ⟨fuel, hf⟩ := h0
    rcases open_ints Try.underlying26 Try.underlying5 (by kernel_rfl) hf with ⟨hcs, _⟩ | ⟨x, l, c, zs, hcs, _, hl, hm, hz, _, hcell, hwz⟩
    · simp [Value.cells] at hcs
      obtain ⟨rfl, rfl, rfl⟩ := hcs
      exact ⟨[], .inl ⟨rfl, rfl, rfl, rfl⟩⟩
    · simp [Value.cells] at hcs
      obtain ⟨rfl, rfl, rfl⟩ := hcs
      exact ⟨zs, .inr ⟨_, rfl, hl, hm, by simpa using hz, hcell, hwz⟩⟩
  clear hA0 hval0
  refine (walk a0 len0 cap0 z0 W w0).mono fun e W' ⟨he, bel⟩ => ?_
  subst he
  exact ⟨_, rfl, _, _, _, [], _, [], hW', trodAll_mk1 (shut_bool Try.underlying4 _), (trodAll_cons_mk (Below.trod laidOut (by kernel_rfl) (of_decide_eq_true (by kernel_rfl)) k0 bel lt0) trodAll_mk0), rfl, bel.frame _, fun h => by cases h⟩

theorem closed : joinedFacts Try.prog 12 Try.f12 Rows.fnNumberExpandSpec Rows.fnNumberExpandRow = true := by
  unfold joinedFacts
  rw [mayEnter_ok, lifts_ok, make_ok]
  kernel_rfl

theorem over : Rows.fnNumberExpandRow.holds Try.pinned (OpenSpec.ofChange Rows.fnNumberExpandSpec) :=
  OpenClaim.holds_of_wide 12 Try.f12 rfl rfl rfl rfl rfl rfl rfl ⟨rfl, rfl, rfl, rfl, rfl⟩ rfl rfl rfl rfl rfl (by kernel_rfl) Try.func12 closed
    (of_decide_eq_true (by kernel_rfl)) (by unfold Func.isWrapper; first | (rw [if_pos (by decide +kernel)]; kernel_rfl) | (rw [if_neg (by decide +kernel)]; exact ⟨rfl, rfl⟩))
    (fun os started H enc _ => lifted os started H enc)

/-- ████ THE STATEMENT ████ -/
theorem proved : Rows.FnNumberExpandSaid := over
#print axioms proved
end Go.Proofs.Ytnjonjbjpjodbaa.fnNumberExpand
