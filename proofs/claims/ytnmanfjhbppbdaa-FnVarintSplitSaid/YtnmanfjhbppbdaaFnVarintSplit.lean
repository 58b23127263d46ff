/- Proved: the law FnVarintSplit returns true for every input and leaves its arguments as they were: Encoding a list that was read gives at most as many bytes. (P8) No condition. -/
import Derived.Test.YtnmanfjhbppbdaaRows
import Derived.WalkKit
import Derived.ProofKit
import Derived.OpenShut
import Derived.ShutString
import Derived.ChangeOld
import Derived.Below
import Derived.Test.YtnmanfjhbppbdaaHead
import Derived.Test.YtnmanfjhbppbdaaBytes
import Derived.Test.YtnmanfjhbppbdaaVLists
namespace Go.Proofs.Ytnmanfjhbppbdaa.fnVarintSplit
open Go.ChangeShapes Go.WideShapes Go.ChangeAt Go.RowKit
open Go.ChangeMaps (open_string shut_string)
set_option linter.unusedVariables false

theorem own : ownKnob Try.prog.godebug = none := by kernel_rfl
theorem laidOut : laidOutB Try.prog = true := by kernel_rfl

theorem walk (a0 : Option Addr) (len0 cap0 : Nat) (z0 : List Int) (w : World) (w0 : IsRow .u8 w a0 len0 cap0 z0) :
    Calls Try.prog 19 #[.slice a0 len0 cap0] w fun e w' => e = .returned (.bool true) ∧ Below w.heap.size w w' := by
  have hc := codeArg_of w0
  have hl := hc.1
  have hm := hc.2.1
  have HC := Lib.hid hc
  clear w0 hc
  by_cases h1 : len0 ≤ 1048576
  · go_enter Try.func19, Try.ntmps19
    go_wp2_with fail
    refine (drawSplit_any a0 len0 cap0 w HC.out).mono ?_
    rintro e w1 ⟨s, rfl, hs, hB⟩
    have B1 := Lib.hid hB
    clear hB
    obtain ⟨xs, ok, hx1, hx2, hlen, hok⟩ := split_parts s.data.toList
    have HX := Lib.hid (And.intro hx1 (And.intro hx2 hok))
    clear hx1 hx2 hok
    go_wp2_with fail
    with_reducible refine (isplit_of s w1 (by omega) xs ok HX.out.1 HX.out.2.1).mono ?_
    rintro e w2 ⟨A2, c2, rfl, hO, hB⟩
    have O2 := Lib.hid hO.in_
    have B2 := Lib.hid (drew2 B1.out hB)
    clear hO hB
    go_wp2_with fail
    with_reducible refine (ssplit_of s w2 (by omega) xs ok HX.out.1 HX.out.2.1).mono ?_
    rintro e w3 ⟨A3, c3, rfl, hO, hB⟩
    have O3 := Lib.hid hO.in_
    have I3 := Lib.hid (O2.out.below hB)
    have L3 := Lib.hid hB.size
    have B3 := Lib.hid (drew2 B2.out hB)
    clear hO hB
    go_wp2_with fail
    have hsame := same_same w2.heap.size w3.heap.size A2 A3 xs c2 c3 w3 I3.out O3.out L3.out (Nat.le_refl _) (by omega)
    with_reducible refine hsame.mono ?_
    clear hsame
    rintro e w4 ⟨rfl, hB⟩
    have I4 := Lib.hid (I3.out.below (hB.mono L3.out))
    have O4 := Lib.hid (O3.out.below hB)
    have L4 := Lib.hid (Nat.le_trans L3.out hB.size)
    have L4' := Lib.hid hB.size
    have B4 := Lib.hid (drew2 B3.out hB)
    clear hB
    cases ok with
    | false =>
      go_wp2_with fail
      with_reducible refine (same_same w2.heap.size w3.heap.size A2 A3 xs c2 c3 w4 I4.out O4.out L4.out L4'.out (by omega)).mono ?_
      rintro e w5 ⟨rfl, hB⟩
      have B5 := Lib.hid (drew2 B4.out hB)
      clear hB
      go_wp2
      go_ret
      exact ⟨rfl, B5.out⟩
    | true =>
      obtain ⟨hv, ha, hle⟩ := HX.out.2.2 rfl
      have hok : joinOk xs = true := by unfold joinOk; rw [ha, decide_eq_true hlen]; rfl
      obtain ⟨t, ht⟩ : ∃ t : ByteArray, (⟨(if joinOk xs then vjoin xs else []).toArray⟩ : ByteArray) = t := ⟨_, rfl⟩
      have htl : t.data.toList = vjoin xs := by rw [← ht, hok, if_pos rfl]
      have htz : t.size ≤ s.size := by rw [← size_list, ← size_list, htl]; exact hle
      have SP := Lib.hid (show vsplit 20 t.data.toList = some xs by rw [htl]; exact split_join xs 20 hlen ha)
      have OK := Lib.hid hok
      have HT := Lib.hid ht
      clear hv ha hle hok ht htl
      go_wp2_with fail
      with_reducible refine (ijoin_of w2.heap.size A2 xs c2 w4 I4.out L4.out (by omega) true t OK.out HT.out).mono ?_
      rintro e w5 ⟨rfl, hB⟩
      have I5 := Lib.hid (I4.out.below (hB.mono L4.out))
      have L5 := Lib.hid (Nat.le_trans L4.out hB.size)
      have B5 := Lib.hid (drew2 B4.out hB)
      clear hB
      go_wp2_with fail
      with_reducible refine (isplit_of t w5 (by omega) xs true (by rw [SP.out, Option.getD_some]) (by rw [SP.out, Option.isSome_some])).mono ?_
      rintro e w6 ⟨A6, c6, rfl, hO, hB⟩
      have O6 := Lib.hid hO.in_
      have I6 := Lib.hid ((I5.out.mono L5.out).below hB)
      have L6 := Lib.hid hB.size
      have B6 := Lib.hid (drew2 B5.out hB)
      clear hO hB
      go_wp2_with fail
      with_reducible refine (same_same w6.heap.size w5.heap.size A6 A2 xs c6 c2 w6 O6.out I6.out (Nat.le_refl _) L6.out (by omega)).mono ?_
      rintro e w7 ⟨rfl, hB⟩
      have B7 := Lib.hid (drew2 B6.out hB)
      clear hB
      go_wp2
      go_ret
      exact ⟨ret_bool (by first | rfl | (simp; done) | (simp; omega)), B7.out⟩
  · go_enter Try.func19, Try.ntmps19
    go_wp2
    go_ret
    exact ⟨rfl, Below.refl _ _⟩

set_option maxRecDepth 100000 in
theorem lifted (os : Os) (started : os.Started) (H : Type) (enc : TypeId × Value → H) :
    ReturnsInHanded {} Try.checked os 19 .any (Rows.fnVarintSplitSpec.pre6 enc Try.prog Try.f19 Rows.fnVarintSplitRow.domain false) (Rows.fnVarintSplitSpec.post enc Try.prog Try.f19 false true false false) := by
  refine returnsInHanded_of_change (C := Try.checked) own started (by kernel_rfl) Try.func19
    (ChangeSpec.witness6 (enc := enc) (C := Try.checked) false ⟨#[], #[.slice none 0 0], []⟩ 8 (by kernel_rfl) (by kernel_rfl) (by kernel_rfl) (by kernel_rfl)) ?_
  intro W base args ds gs before hval0 hW hcnd _
  have hval : ∀ (j : Nat) t v, Try.f19.params[j]? = some t → args[j]? = some v → Value.okWide Try.prog W .any base t v := hval0
  have hW' := hW
  obtain ⟨p, q, hA0, hV, rfl, hfz, hnd⟩ := hW
  have hA : DataW.TrodAll enc Try.prog W 0 (fun _ => true) true Try.f19.params.toList args.toList ds p := hA0
  rw [Try.params19] at hA hval
  obtain ⟨v0, vs0, d0, ds0, p0, q0, hargs, rfl, rfl, h0, r0⟩ := trodAll_cons hA
  obtain ⟨rfl, rfl, rfl⟩ := trodAll_nil r0
  obtain rfl : args = #[v0] := by cases args; simp_all
  obtain ⟨rfl, rfl⟩ := trodVars_none hV
  obtain ⟨a0, len0, cap0, rfl⟩ := okWide_slice Try.underlying28 (hval 0 28 v0 rfl rfl)
  have k0 := h0
  have lt0 : ∀ x ∈ p0, x.block < W.heap.size := by obtain ⟨m, hm⟩ := k0; exact DataW.trod_lt m _ _ _ hm
  obtain ⟨z0, w0⟩ : ∃ zs, IsRow .u8 W a0 len0 cap0 zs := by
    obtain ⟨fuel, hf⟩ := h0
    rcases open_ints Try.underlying28 Try.underlying5 (by kernel_rfl) hf with ⟨hcs, _⟩ | ⟨x, l, c, zs, hcs, _, hl, hm, hz, _, hcell, hwz⟩
    · simp [Value.cells] at hcs
      obtain ⟨rfl, rfl, rfl⟩ := hcs
      exact ⟨[], .inl ⟨rfl, rfl, rfl, rfl⟩⟩
    · simp [Value.cells] at hcs
      obtain ⟨rfl, rfl, rfl⟩ := hcs
      exact ⟨zs, .inr ⟨_, rfl, hl, hm, by simpa using hz, hcell, hwz⟩⟩
  clear hA0 hval0
  refine (walk a0 len0 cap0 z0 W w0).mono fun e W' ⟨he, bel⟩ => ?_
  subst he
  exact ⟨_, rfl, _, _, _, [], _, [], hW', trodAll_mk1 (shut_bool Try.underlying4 _), (trodAll_cons_mk (Below.trod laidOut (by kernel_rfl) (of_decide_eq_true (by kernel_rfl)) k0 bel lt0) trodAll_mk0), rfl, bel.frame _, fun h => by cases h⟩

theorem closed : joinedFacts Try.prog 19 Try.f19 Rows.fnVarintSplitSpec Rows.fnVarintSplitRow = true := by
  unfold joinedFacts
  rw [mayEnter_ok, lifts_ok, make_ok]
  kernel_rfl

theorem over : Rows.fnVarintSplitRow.holds Try.pinned (OpenSpec.ofChange Rows.fnVarintSplitSpec) :=
  OpenClaim.holds_of_wide 19 Try.f19 rfl rfl rfl rfl rfl rfl rfl ⟨rfl, rfl, rfl, rfl, rfl⟩ rfl rfl rfl rfl rfl (by kernel_rfl) Try.func19 closed
    (of_decide_eq_true (by kernel_rfl)) (by unfold Func.isWrapper; first | (rw [if_pos (by decide +kernel)]; kernel_rfl) | (rw [if_neg (by decide +kernel)]; exact ⟨rfl, rfl⟩))
    (fun os started H enc _ => lifted os started H enc)

/-- ████ THE STATEMENT ████ -/
theorem proved : Rows.FnVarintSplitSaid := over
#print axioms proved
end Go.Proofs.Ytnmanfjhbppbdaa.fnVarintSplit
