/- Proved: the law FnVarintJoin returns true for every input and leaves its arguments as they were: A list is read back from its encoding. (P7) No condition. -/
import Derived.Test.YtnmanfjhbppbdaaRows
import Derived.WalkKit
import Derived.ProofKit
import Derived.OpenShut
import Derived.ShutString
import Derived.ChangeOld
import Derived.Below
import Derived.Test.YtnmanfjhbppbdaaHead
import Derived.Test.YtnmanfjhbppbdaaVDrawJ
import Derived.Test.YtnmanfjhbppbdaaVLists
namespace Go.Proofs.Ytnmanfjhbppbdaa.fnVarintJoin
open Go.ChangeShapes Go.WideShapes Go.ChangeAt Go.RowKit
open Go.ChangeMaps (open_string shut_string)
set_option linter.unusedVariables false

theorem own : ownKnob Try.prog.godebug = none := by kernel_rfl
theorem laidOut : laidOutB Try.prog = true := by kernel_rfl

theorem walk (a0 : Option Addr) (len0 cap0 : Nat) (z0 : List Int) (w : World) (w0 : IsRow .u8 w a0 len0 cap0 z0) :
    Calls Try.prog 18 #[.slice a0 len0 cap0] w fun e w' => e = .returned (.bool true) ∧ Below w.heap.size w w' := by
  have hc := codeArg_of w0
  have hl := hc.1
  have hm := hc.2.1
  have HC := Lib.hid hc
  clear w0 hc
  by_cases h1 : len0 ≤ 1048576
  · go_enter Try.func18, Try.ntmps18
    go_wp2_with fail
    refine (drawJoin_any a0 len0 cap0 w HC.out).mono ?_
    rintro e w1 ⟨A, c, xs, rfl, hl, hI, hB⟩
    have I := Lib.hid hI
    have B1 := Lib.hid hB
    obtain ⟨ok, hok⟩ : ∃ ok, joinOk xs = ok := ⟨_, rfl⟩
    obtain ⟨s, hs⟩ : ∃ s, (⟨(if joinOk xs then vjoin xs else []).toArray⟩ : ByteArray) = s := ⟨_, rfl⟩
    have OK := Lib.hid hok
    have HS := Lib.hid hs
    clear hI hB hok hs
    go_wp2_with fail
    with_reducible refine (ijoin_of w1.heap.size A xs c w1 I.out (Nat.le_refl _) (by omega) ok s OK.out HS.out).mono ?_
    rintro e w2 ⟨rfl, hB⟩
    have I2 := Lib.hid (I.out.below hB)
    have K2 := Lib.hid hB
    clear hB
    go_wp2_with fail
    with_reducible refine (sjoin_of w1.heap.size A xs c w2 I2.out K2.out.size (by omega) ok s OK.out HS.out).mono ?_
    rintro e w3 ⟨rfl, hB⟩
    have K3 := Lib.hid (drew2 K2.out hB)
    have I3 := Lib.hid (I.out.below K3.out)
    clear hB
    cases ok with
    | false =>
      go_wp2
      go_ret
      exact ⟨ret_bool (by first | rfl | (simp; done)), drew2 B1.out K3.out⟩
    | true =>
      have hj := OK.out
      unfold joinOk at hj
      rw [Bool.and_eq_true, decide_eq_true_eq] at hj
      have hsl : s.data.toList = vjoin xs := by rw [← HS.out, OK.out, if_pos rfl]
      have hsp := split_join xs 20 hj.1 hj.2
      have SP := Lib.hid (show vsplit 20 s.data.toList = some xs by rw [hsl]; exact hsp)
      have hz : s.size ≤ 1000 := by
        have h1 := vjoin_len xs
        rw [size_of_list s _ hsl]; omega
      clear hj hsl hsp
      go_wp2_with fail
      with_reducible refine (isplit_of s w3 (by omega) xs true (by rw [SP.out, Option.getD_some]) (by rw [SP.out, Option.isSome_some])).mono ?_
      rintro e w4 ⟨A4, c4, rfl, hO, hB⟩
      have O4 := Lib.hid hO.in_
      have I4 := Lib.hid ((I3.out.mono K3.out.size).below hB)
      have L4 := Lib.hid (Nat.le_trans K3.out.size hB.size)
      have B4 := Lib.hid (drew2 (drew2 B1.out K3.out) hB)
      have L5 := Lib.hid hB.size
      clear hO hB
      go_wp2_with fail
      with_reducible refine (same_same w4.heap.size w3.heap.size A4 A xs c4 c w4 O4.out I4.out (Nat.le_refl _) L5.out (by omega)).mono ?_
      rintro e w5 ⟨rfl, hB⟩
      have B5 := Lib.hid (drew2 B4.out hB)
      clear hB
      go_wp2
      go_ret
      exact ⟨rfl, B5.out⟩
  · go_enter Try.func18, Try.ntmps18
    go_wp2
    go_ret
    exact ⟨rfl, Below.refl _ _⟩

set_option maxRecDepth 100000 in
theorem lifted (os : Os) (started : os.Started) (H : Type) (enc : TypeId × Value → H) :
    ReturnsInHanded {} Try.checked os 18 .any (Rows.fnVarintJoinSpec.pre6 enc Try.prog Try.f18 Rows.fnVarintJoinRow.domain false) (Rows.fnVarintJoinSpec.post enc Try.prog Try.f18 false true false false) := by
  refine returnsInHanded_of_change (C := Try.checked) own started (by kernel_rfl) Try.func18
    (ChangeSpec.witness6 (enc := enc) (C := Try.checked) false ⟨#[], #[.slice none 0 0], []⟩ 8 (by kernel_rfl) (by kernel_rfl) (by kernel_rfl) (by kernel_rfl)) ?_
  intro W base args ds gs before hval0 hW hcnd _
  have hval : ∀ (j : Nat) t v, Try.f18.params[j]? = some t → args[j]? = some v → Value.okWide Try.prog W .any base t v := hval0
  have hW' := hW
  obtain ⟨p, q, hA0, hV, rfl, hfz, hnd⟩ := hW
  have hA : DataW.TrodAll enc Try.prog W 0 (fun _ => true) true Try.f18.params.toList args.toList ds p := hA0
  rw [Try.params18] at hA hval
  obtain ⟨v0, vs0, d0, ds0, p0, q0, hargs, rfl, rfl, h0, r0⟩ := trodAll_cons hA
  obtain ⟨rfl, rfl, rfl⟩ := trodAll_nil r0
  obtain rfl : args = #[v0] := by cases args; simp_all
  obtain ⟨rfl, rfl⟩ := trodVars_none hV
  obtain ⟨a0, len0, cap0, rfl⟩ := okWide_slice Try.underlying28 (hval 0 28 v0 rfl rfl)
  have k0 := h0
  have lt0 : ∀ x ∈ p0, x.block < W.heap.size := by obtain ⟨m, hm⟩ := k0; exact DataW.trod_lt m _ _ _ hm
  obtain ⟨z0, w0⟩ : ∃ zs, IsRow .u8 W a0 len0 cap0 zs := by
    obtain ⟨fuel, hf⟩ := h0
    rcases open_ints Try.underlying28 Try.underlying5 (by kernel_rfl) hf with ⟨hcs, _⟩ | ⟨x, l, c, zs, hcs, _, hl, hm, hz, _, hcell, hwz⟩
    · simp [Value.cells] at hcs
      obtain ⟨rfl, rfl, rfl⟩ := hcs
      exact ⟨[], .inl ⟨rfl, rfl, rfl, rfl⟩⟩
    · simp [Value.cells] at hcs
      obtain ⟨rfl, rfl, rfl⟩ := hcs
      exact ⟨zs, .inr ⟨_, rfl, hl, hm, by simpa using hz, hcell, hwz⟩⟩
  clear hA0 hval0
  refine (walk a0 len0 cap0 z0 W w0).mono fun e W' ⟨he, bel⟩ => ?_
  subst he
  exact ⟨_, rfl, _, _, _, [], _, [], hW', trodAll_mk1 (shut_bool Try.underlying4 _), (trodAll_cons_mk (Below.trod laidOut (by kernel_rfl) (of_decide_eq_true (by kernel_rfl)) k0 bel lt0) trodAll_mk0), rfl, bel.frame _, fun h => by cases h⟩

theorem closed : joinedFacts Try.prog 18 Try.f18 Rows.fnVarintJoinSpec Rows.fnVarintJoinRow = true := by
  unfold joinedFacts
  rw [mayEnter_ok, lifts_ok, make_ok]
  kernel_rfl

theorem over : Rows.fnVarintJoinRow.holds Try.pinned (OpenSpec.ofChange Rows.fnVarintJoinSpec) :=
  OpenClaim.holds_of_wide 18 Try.f18 rfl rfl rfl rfl rfl rfl rfl ⟨rfl, rfl, rfl, rfl, rfl⟩ rfl rfl rfl rfl rfl (by kernel_rfl) Try.func18 closed
    (of_decide_eq_true (by kernel_rfl)) (by unfold Func.isWrapper; first | (rw [if_pos (by decide +kernel)]; kernel_rfl) | (rw [if_neg (by decide +kernel)]; exact ⟨rfl, rfl⟩))
    (fun os started H enc _ => lifted os started H enc)

/-- ████ THE STATEMENT ████ -/
theorem proved : Rows.FnVarintJoinSaid := over
#print axioms proved
end Go.Proofs.Ytnmanfjhbppbdaa.fnVarintJoin
