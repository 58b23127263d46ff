/- Proved: the law FnExactBoxesValid returns true for every input and leaves its arguments as they were: The program's BoxesValid returns what the reference's returns, for all arguments. No condition. -/
import Derived.Test.YtamddfacmmjglaaRows
import Derived.WalkKit
import Derived.ProofKit
import Derived.OpenShut
import Derived.ShutString
import Derived.ChangeOld
import Derived.Below
import Derived.Test.YtamddfacmmjglaaHead
import Derived.Test.YtamddfacmmjglaaHead
import Derived.Test.YtamddfacmmjglaaOpenBx
import Derived.Test.YtamddfacmmjglaaDBoxes
namespace Go.Proofs.Ytamddfacmmjglaa.fnExactBoxesValid
open Go.ChangeShapes Go.WideShapes Go.ChangeAt Go.RowKit
set_option linter.unusedVariables false
theorem own : ownKnob Try.prog.godebug = none := by kernel_rfl
theorem laidOut : laidOutB Try.prog = true := by kernel_rfl
theorem in_total {bs : List Bx} : ∀ b ∈ bs, b.ins.length ≤ btotal bs := by
  induction bs with
  | nil => intro b hb; cases hb
  | cons x xs ih =>
    intro b hb
    unfold btotal
    rcases List.mem_cons.1 hb with rfl | hb
    · omega
    · have := ih b hb; omega
theorem walk (a0 : Option Addr) (len0 cap0 : Nat) (r0 : List Bx) (w : World) (w0 : r0.length = len0 ∧ BxIn w w.heap.size a0 r0 ∧ len0 ≤ 9223372036854775807 ∧ ∀ b ∈ r0, b.ins.length ≤ 9223372036854775807) :
    Calls Try.prog 3 #[.slice a0 len0 cap0] w fun e w' => e = .returned (.bool true) ∧ Below w.heap.size w w' := by
  obtain ⟨hxl, hI, hcap, hins⟩ := w0
  subst hxl
  have I := Lib.hid hI
  have INS := Lib.hid hins
  clear hI hins
  have hz := szBoxS_any w.heap.size a0 r0 cap0 w I.out (Nat.le_refl _) hcap INS.out
  by_cases hl : r0.length + btotal r0 ≤ 1048576
  · rw [if_pos hl] at hz
    have MI := Lib.hid (show ∀ b ∈ r0, b.ins.length ≤ 1000000000 from fun b hb => by have := in_total b hb; omega)
    have MJ := Lib.hid (show ∀ b ∈ r0, b.ins.length ≤ 1000000000000 from fun b hb => by have := in_total b hb; omega)
    obtain ⟨lf, hlf⟩ : ∃ lf : Int, 1048576 - (r0.length : Int) - (btotal r0 : Int) = lf := ⟨_, rfl⟩
    have hl0 : 0 ≤ lf := by omega
    have hl1 : r0.length ≤ 1048576 := by omega
    rw [hlf] at hz
    clear hlf hl
    have HZ := Lib.hid hz
    clear hz
    obtain ⟨b, hb⟩ : ∃ b, bvalid r0 = b := ⟨_, rfl⟩
    have HB := Lib.hid hb
    clear hb
    go_enter Try.func3, Try.ntmps3
    go_wp2_with fail
    refine HZ.out.mono ?_
    rintro e w0 ⟨rfl, hB⟩
    have B0 := Lib.hid hB
    clear hB
    go_wp2_with fail
    with_reducible refine (toBs_any w.heap.size a0 r0 cap0 w0 (I.out.below B0.out) B0.out.size (by omega) MI.out).mono ?_
    rintro e w1 ⟨A1, c1, rfl, hO, hB⟩
    have O1 := Lib.hid hO
    have B1 := Lib.hid (drew2 B0.out hB)
    clear hO hB
    go_wp2_with fail
    with_reducible refine (sbv_any w1.heap.size A1 r0 c1 w1 b O1.out (by omega) MJ.out HB.out).mono ?_
    rintro e w2 ⟨rfl, rfl⟩
    go_wp2_with fail
    with_reducible refine (toBs_any w.heap.size a0 r0 cap0 w1 (I.out.below B1.out) B1.out.size (by omega) MI.out).mono ?_
    rintro e w3 ⟨A3, c3, rfl, hO, hB⟩
    have O3 := Lib.hid hO
    have B3 := Lib.hid (drew2 B1.out hB)
    clear hO hB
    go_wp2_with fail
    with_reducible refine (ibv_any w3.heap.size A3 r0 c3 w3 b O3.out (Nat.le_refl _) (by omega) MJ.out HB.out).mono ?_
    rintro e w4 ⟨rfl, hB⟩
    have O4 := Lib.hid ((O3.out.below hB).mono hB.size)
    have B4 := Lib.hid (drew2 B3.out hB)
    clear hB
    go_wp2_with fail
    with_reducible refine (toBs_any w.heap.size a0 r0 cap0 w4 (I.out.below B4.out) B4.out.size (by omega) MI.out).mono ?_
    rintro e w5 ⟨A5, c5, rfl, hO, hB⟩
    have O5 := Lib.hid hO
    have O6 := Lib.hid ((O4.out.below hB).mono hB.size)
    have B5 := Lib.hid (drew2 B4.out hB)
    clear hO hB
    go_wp2_with fail
    with_reducible refine (eqBs_same w5.heap.size w5.heap.size A3 A5 r0 c3 c5 w5 O6.out O5.out (Nat.le_refl _) (Nat.le_refl _) (by omega) MJ.out).mono ?_
    rintro e w6 ⟨rfl, hB⟩
    have B6 := Lib.hid (drew2 B5.out hB)
    clear hB
    go_wp2
    go_ret
    exact ⟨rfl, B6.out⟩
  · rw [if_neg hl] at hz
    have HZ := Lib.hid hz
    clear hz
    go_enter Try.func3, Try.ntmps3
    go_wp2_with fail
    refine HZ.out.mono ?_
    rintro e w1 ⟨rfl, hB⟩
    have B1 := Lib.hid hB
    clear hB
    go_wp2
    go_ret
    exact ⟨rfl, B1.out⟩
set_option maxRecDepth 100000 in
theorem lifted (os : Os) (started : os.Started) (H : Type) (enc : TypeId × Value → H) :
    ReturnsInHanded {} Try.checked os 3 .any (Rows.fnExactBoxesValidSpec.pre6 enc Try.prog Try.f3 Rows.fnExactBoxesValidRow.domain false) (Rows.fnExactBoxesValidSpec.post enc Try.prog Try.f3 false true false false) := by
  refine returnsInHanded_of_change (C := Try.checked) own started (by kernel_rfl) Try.func3
    (ChangeSpec.witness6 (enc := enc) (C := Try.checked) false ⟨#[], #[.slice none 0 0], []⟩ 8 (by kernel_rfl) (by kernel_rfl) (by kernel_rfl) (by kernel_rfl)) ?_
  intro W base args ds gs before hval0 hW hcnd _
  have hval : ∀ (j : Nat) t v, Try.f3.params[j]? = some t → args[j]? = some v → Value.okWide Try.prog W .any base t v := hval0
  have hW' := hW
  obtain ⟨p, q, hA0, hV, rfl, hfz, hnd⟩ := hW
  have hA : DataW.TrodAll enc Try.prog W 0 (fun _ => true) true Try.f3.params.toList args.toList ds p := hA0
  rw [Try.params3] at hA hval
  obtain ⟨v0, vs0, d0, ds0, p0, q0, hargs, rfl, rfl, h0, r_0⟩ := trodAll_cons hA
  obtain ⟨rfl, rfl, rfl⟩ := trodAll_nil r_0
  obtain rfl : args = #[v0] := by cases args; simp_all
  obtain ⟨rfl, rfl⟩ := trodVars_none hV
  obtain ⟨a0, len0, cap0, rfl⟩ := okWide_slice Try.underlying22 (hval 0 22 v0 rfl rfl)
  have k0 := h0
  have lt0 : ∀ x ∈ p0, x.block < W.heap.size := by obtain ⟨m, hm⟩ := k0; exact DataW.trod_lt m _ _ _ hm
  obtain ⟨r0, w0⟩ : ∃ bs : List Bx, bs.length = len0 ∧ BxIn W W.heap.size a0 bs ∧ len0 ≤ 9223372036854775807 ∧ ∀ b ∈ bs, b.ins.length ≤ 9223372036854775807 := by
    obtain ⟨fuel, hf⟩ := h0
    obtain ⟨hb, bs, h1, h2, h3⟩ := open_bs hf
    exact ⟨bs, h1, h2, hb, h3⟩
  clear hA0 hval0
  refine (walk a0 len0 cap0 r0 W w0).mono fun e W' ⟨he, bel⟩ => ?_
  subst he
  exact ⟨_, rfl, _, _, _, [], _, [], hW', trodAll_mk1 (shut_bool Try.underlying4 _), (trodAll_cons_mk (Below.trod laidOut (by kernel_rfl) (of_decide_eq_true (by kernel_rfl)) k0 bel lt0) trodAll_mk0), rfl, bel.frame _, fun h => by cases h⟩
theorem closed : joinedFacts Try.prog 3 Try.f3 Rows.fnExactBoxesValidSpec Rows.fnExactBoxesValidRow = true := by
  unfold joinedFacts
  rw [mayEnter_ok, lifts_ok, make_ok]
  kernel_rfl
theorem over : Rows.fnExactBoxesValidRow.holds Try.pinned (OpenSpec.ofChange Rows.fnExactBoxesValidSpec) :=
  OpenClaim.holds_of_wide 3 Try.f3 rfl rfl rfl rfl rfl rfl rfl ⟨rfl, rfl, rfl, rfl, rfl⟩ rfl rfl rfl rfl rfl (by kernel_rfl) Try.func3 closed
    (of_decide_eq_true (by kernel_rfl)) (by unfold Func.isWrapper; first | (rw [if_pos (by decide +kernel)]; kernel_rfl) | (rw [if_neg (by decide +kernel)]; exact ⟨rfl, rfl⟩))
    (fun os started H enc _ => lifted os started H enc)
theorem proved : Rows.FnExactBoxesValidSaid := over
#print axioms proved
end Go.Proofs.Ytamddfacmmjglaa.fnExactBoxesValid
