/- Proved: the law FnDeriveKnown returns true for every input and leaves its arguments as they were: Known atoms are derivable, and open boxes are open. (P44) No condition. -/
import Derived.Test.YtamddfacmmjglaaRows
import Derived.WalkKit
import Derived.ProofKit
import Derived.OpenShut
import Derived.ShutString
import Derived.ChangeOld
import Derived.Below
import Derived.Test.YtamddfacmmjglaaHead
import Derived.Test.YtamddfacmmjglaaDLaw
namespace Go.Proofs.Ytamddfacmmjglaa.fnDeriveKnown
open Go.ChangeShapes Go.WideShapes Go.ChangeAt Go.RowKit
open Go.ChangeMaps (open_string shut_string)
set_option linter.unusedVariables false

theorem own : ownKnob Try.prog.godebug = none := by kernel_rfl
theorem laidOut : laidOutB Try.prog = true := by kernel_rfl

theorem walk (a0 : Option Addr) (len0 cap0 : Nat) (z0 : List Int) (w : World) (w0 : IsRow .u8 w a0 len0 cap0 z0) :
    Calls Try.prog 8 #[.slice a0 len0 cap0] w fun e w' => e = .returned (.bool true) ∧ Below w.heap.size w w' := by
  have hc := codeArg_of w0
  have hl := hc.1
  have hm := hc.2.1
  have HC := Lib.hid hc
  clear w0 hc
  by_cases h1 : len0 ≤ 1048576
  · have BB0 := Lib.hid (Below.refl w.heap.size w)
    go_enter Try.func8, Try.ntmps8
    go_wp2_with fail
    refine (drawDerive_any a0 len0 cap0 w HC.out).mono ?_
    rintro e v1 ⟨A_L, c_L, l, A_K, c_K, ks, rfl, hl, hs, hk, hO, hI, hB⟩
    have L1 := Lib.hid hO
    have K1 := Lib.hid hI
    have B1 := Lib.hid (drew2 BB0.out hB)
    clear hO hI hB BB0
    obtain ⟨q, HP⟩ : ∃ q, Hid (dout l ks = q) := ⟨_, rfl⟩
    have hq : q.length ≤ 20 := by rw [← HP.out]; exact dout_len _ _
    go_wp2_with fail
    with_reducible refine (ider_r L1.out K1.out (by omega) (by omega) hs.out HP.out).mono ?_
    rintro e v2 ⟨A_Q, c_Q, rfl, hO, hB⟩
    have L2 := Lib.hid (L1.out.below hB)
    have K2 := Lib.hid (K1.out.below hB)
    have Q2 := Lib.hid hO
    have B2 := Lib.hid (drew2 B1.out hB)
    clear hO hB L1 K1 B1
    go_wp2_with fail
    with_reducible refine (sder_r L2.out K2.out (by omega) (by omega) hs.out HP.out).mono ?_
    rintro e v3 ⟨A_S, c_S, rfl, hO, hB⟩
    have L3 := Lib.hid (L2.out.below hB)
    have K3 := Lib.hid (K2.out.below hB)
    have Q3 := Lib.hid (Q2.out.below hB)
    have S3 := Lib.hid hO
    have B3 := Lib.hid (drew2 B2.out hB)
    clear hO hB L2 K2 Q2 B2
    go_wp2_with fail
    with_reducible refine (dsame_r Q3.out S3.out (by omega) (decide_eq_true rfl)).mono ?_
    rintro e v4 ⟨rfl, hB⟩
    have L4 := Lib.hid (L3.out.below hB)
    have K4 := Lib.hid (K3.out.below hB)
    have Q4 := Lib.hid (Q3.out.below hB)
    have S4 := Lib.hid (S3.out.below hB)
    have B4 := Lib.hid (drew2 B3.out hB)
    clear hB L3 K3 Q3 S3 B3
    by_cases hq0 : 0 < q.length
    · have hz : ((q.length : Int) == 0) = false := by rw [beq_eq_false_iff_ne]; omega
      have HQ0 := Lib.hid (show 0 < (dout l ks).length by rw [HP.out]; exact hq0)
      go_wp2_with fail
      go_loop [7] (fun i => ∃ k : Nat, k ≤ ks.length ∧ i = .int .i64 k) (fun i => ks.length - (intOf i).toNat)
      case atStart => exact ⟨0, Nat.zero_le _, rfl⟩
      case round =>
        obtain ⟨k, hk0, rfl⟩ := hrel
        by_cases hlt : k < ks.length
        · obtain ⟨b, hA, _, hbl, hc⟩ := K4.out.cell (by omega)
          subst hA
          have g1 := hc k hlt
          have HR := Lib.hid (show decide (ks.getD k 0 ∈ q) = true from decide_eq_true (by rw [← HP.out]; exact known_out HQ0.out (getD_in hlt)))
          clear hc
          generalize ks.getD k 0 = x at g1 HR
          go_wp2_with fail
          with_reducible refine (dhas_r Q4.out (by omega) HR.out).mono ?_
          rintro e v5 ⟨rfl, rfl⟩
          go_wp2_with fail
          go_round
          case rel => exact ⟨k + 1, by omega, by go_num⟩
          case measure => simp [intOf]; omega
        · go_wp2_with fail
          go_loop [8] (fun i => ∃ k : Nat, k ≤ l.length ∧ i = .int .i64 k) (fun i => l.length - (intOf i).toNat)
          case atStart => exact ⟨0, Nat.zero_le _, rfl⟩
          case round =>
            obtain ⟨k, hk0, rfl⟩ := hrel
            by_cases hlt : k < l.length
            · obtain ⟨b, off, rfl, hbB, hc⟩ := L4.out.in_ (by omega)
              obtain ⟨Ai, ci, g1, g2, hI⟩ := hc k hlt
              have T := Lib.hid (fun x (hx : x ∈ (l.getD k ⟨0, []⟩).ins) (hk : (l.getD k ⟨0, []⟩).key ∈ q) => (show x ∈ q by
                rw [← HP.out] at hk ⊢
                exact open_out HQ0.out (bgetD_mem hlt) hk hx))
              have hil := hs.out _ (bgetD_mem hlt)
              clear hc
              generalize l.getD k ⟨0, []⟩ = t at g1 g2 hI T hil
              obtain ⟨key, ins⟩ := t
              simp only at g1 g2 hI T hil
              have II := Lib.hid hI
              clear hI
              obtain ⟨r, hr⟩ : ∃ r, decide (key ∈ q) = r := ⟨_, rfl⟩
              have HK := Lib.hid hr
              clear hr
              go_wp2_with fail
              go_loop [9] (fun i => ∃ j : Nat, j ≤ ins.length ∧ i = .int .i64 j) (fun i => ins.length - (intOf i).toNat)
              case atStart => exact ⟨0, Nat.zero_le _, rfl⟩
              case round =>
                obtain ⟨j, hj, rfl⟩ := hrel
                by_cases hlj : j < ins.length
                · obtain ⟨bi, oi, hAi, _, hci⟩ := II.out (by omega)
                  subst hAi
                  have g3 := hci j hlj
                  have HX := Lib.hid (fun (h : key ∈ q) => T.out _ (getD_in hlj) h)
                  clear hci
                  generalize ins.getD j 0 = x at g3 HX
                  go_wp2_with fail
                  with_reducible refine (dhas_r Q4.out (by omega) HK.out).mono ?_
                  rintro e v5 ⟨rfl, rfl⟩
                  cases r with
                  | false =>
                    go_wp2_with fail
                    go_round
                    case rel => exact ⟨j + 1, by omega, by go_num⟩
                    case measure => simp [intOf]; omega
                  | true =>
                    have HXX := Lib.hid (decide_eq_true (HX.out (of_decide_eq_true HK.out)))
                    go_wp2_with fail
                    with_reducible refine (dhas_r Q4.out (by omega) HXX.out).mono ?_
                    rintro e v6 ⟨rfl, rfl⟩
                    go_wp2_with fail
                    go_round
                    case rel => exact ⟨j + 1, by omega, by go_num⟩
                    case measure => simp [intOf]; omega
                · go_wp2_with fail
                  go_round
                  case rel => exact ⟨k + 1, by omega, by go_num⟩
                  case measure => simp [intOf]; omega
            · go_wp2_with fail
              go_ret
              exact ⟨rfl, B4.out⟩
    · have hz : ((q.length : Int) == 0) = true := by rw [beq_iff_eq]; omega
      go_wp2_with fail
      with_reducible refine (dsame_r Q4.out S4.out (by omega) (decide_eq_true rfl)).mono ?_
      rintro e v5 ⟨rfl, hB⟩
      have B5 := Lib.hid (drew2 B4.out hB)
      clear hB
      go_wp2
      go_ret
      exact ⟨ret_bool (by first | rfl | (simp; done)), B5.out⟩
  · go_enter Try.func8, Try.ntmps8
    go_wp2
    go_ret
    exact ⟨rfl, Below.refl _ _⟩

set_option maxRecDepth 100000 in
theorem lifted (os : Os) (started : os.Started) (H : Type) (enc : TypeId × Value → H) :
    ReturnsInHanded {} Try.checked os 8 .any (Rows.fnDeriveKnownSpec.pre6 enc Try.prog Try.f8 Rows.fnDeriveKnownRow.domain false) (Rows.fnDeriveKnownSpec.post enc Try.prog Try.f8 false true false false) := by
  refine returnsInHanded_of_change (C := Try.checked) own started (by kernel_rfl) Try.func8
    (ChangeSpec.witness6 (enc := enc) (C := Try.checked) false ⟨#[], #[.slice none 0 0], []⟩ 8 (by kernel_rfl) (by kernel_rfl) (by kernel_rfl) (by kernel_rfl)) ?_
  intro W base args ds gs before hval0 hW hcnd _
  have hval : ∀ (j : Nat) t v, Try.f8.params[j]? = some t → args[j]? = some v → Value.okWide Try.prog W .any base t v := hval0
  have hW' := hW
  obtain ⟨p, q, hA0, hV, rfl, hfz, hnd⟩ := hW
  have hA : DataW.TrodAll enc Try.prog W 0 (fun _ => true) true Try.f8.params.toList args.toList ds p := hA0
  rw [Try.params8] at hA hval
  obtain ⟨v0, vs0, d0, ds0, p0, q0, hargs, rfl, rfl, h0, r0⟩ := trodAll_cons hA
  obtain ⟨rfl, rfl, rfl⟩ := trodAll_nil r0
  obtain rfl : args = #[v0] := by cases args; simp_all
  obtain ⟨rfl, rfl⟩ := trodVars_none hV
  obtain ⟨a0, len0, cap0, rfl⟩ := okWide_slice Try.underlying29 (hval 0 29 v0 rfl rfl)
  have k0 := h0
  have lt0 : ∀ x ∈ p0, x.block < W.heap.size := by obtain ⟨m, hm⟩ := k0; exact DataW.trod_lt m _ _ _ hm
  obtain ⟨z0, w0⟩ : ∃ zs, IsRow .u8 W a0 len0 cap0 zs := by
    obtain ⟨fuel, hf⟩ := h0
    rcases open_ints Try.underlying29 Try.underlying5 (by kernel_rfl) hf with ⟨hcs, _⟩ | ⟨x, l, c, zs, hcs, _, hl, hm, hz, _, hcell, hwz⟩
    · simp [Value.cells] at hcs
      obtain ⟨rfl, rfl, rfl⟩ := hcs
      exact ⟨[], .inl ⟨rfl, rfl, rfl, rfl⟩⟩
    · simp [Value.cells] at hcs
      obtain ⟨rfl, rfl, rfl⟩ := hcs
      exact ⟨zs, .inr ⟨_, rfl, hl, hm, by simpa using hz, hcell, hwz⟩⟩
  clear hA0 hval0
  refine (walk a0 len0 cap0 z0 W w0).mono fun e W' ⟨he, bel⟩ => ?_
  subst he
  exact ⟨_, rfl, _, _, _, [], _, [], hW', trodAll_mk1 (shut_bool Try.underlying4 _), (trodAll_cons_mk (Below.trod laidOut (by kernel_rfl) (of_decide_eq_true (by kernel_rfl)) k0 bel lt0) trodAll_mk0), rfl, bel.frame _, fun h => by cases h⟩

theorem closed : joinedFacts Try.prog 8 Try.f8 Rows.fnDeriveKnownSpec Rows.fnDeriveKnownRow = true := by
  unfold joinedFacts
  rw [mayEnter_ok, lifts_ok, make_ok]
  kernel_rfl

theorem over : Rows.fnDeriveKnownRow.holds Try.pinned (OpenSpec.ofChange Rows.fnDeriveKnownSpec) :=
  OpenClaim.holds_of_wide 8 Try.f8 rfl rfl rfl rfl rfl rfl rfl ⟨rfl, rfl, rfl, rfl, rfl⟩ rfl rfl rfl rfl rfl (by kernel_rfl) Try.func8 closed
    (of_decide_eq_true (by kernel_rfl)) (by unfold Func.isWrapper; first | (rw [if_pos (by decide +kernel)]; kernel_rfl) | (rw [if_neg (by decide +kernel)]; exact ⟨rfl, rfl⟩))
    (fun os started H enc _ => lifted os started H enc)

/-- ████ THE STATEMENT ████ -/
theorem proved : Rows.FnDeriveKnownSaid := over
#print axioms proved
end Go.Proofs.Ytamddfacmmjglaa.fnDeriveKnown
