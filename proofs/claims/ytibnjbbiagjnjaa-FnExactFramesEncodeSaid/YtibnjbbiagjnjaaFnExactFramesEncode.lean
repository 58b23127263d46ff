/- Proved: the law FnExactFramesEncode returns true for every input and leaves its arguments as they were: The program's FramesEncode returns what the reference's returns, for all arguments. No condition. -/
import Derived.Test.YtibnjbbiagjnjaaRows
import Derived.WalkKit
import Derived.ProofKit
import Derived.OpenShut
import Derived.ShutString
import Derived.ChangeOld
import Derived.Below
import Derived.Test.YtibnjbbiagjnjaaHead
import Derived.Test.YtibnjbbiagjnjaaHead
import Derived.Test.YtibnjbbiagjnjaaGOpen
import Derived.Test.YtibnjbbiagjnjaaGCopy
namespace Go.Proofs.Ytibnjbbiagjnjaa.fnExactFramesEncode
open Go.ChangeShapes Go.WideShapes Go.ChangeAt Go.RowKit
set_option linter.unusedVariables false
theorem own : ownKnob Try.prog.godebug = none := by kernel_rfl
theorem laidOut : laidOutB Try.prog = true := by kernel_rfl
theorem walk (a0 : Option Addr) (len0 cap0 : Nat) (r0 : List Fv) (w : World) (w0 : r0.length = len0 ∧ FsIn w w.heap.size a0 r0 ∧ len0 ≤ 9223372036854775807 ∧ ∀ v ∈ r0, v.rs.length ≤ 9223372036854775807 ∧ v.s.size ≤ 9223372036854775807) :
    Calls Try.prog 4 #[.slice a0 len0 cap0] w fun e w' => e = .returned (.bool true) ∧ Below w.heap.size w w' := by
  obtain ⟨hxl, hI, hcap, hins⟩ := w0
  subst hxl
  have I := Lib.hid hI
  have INS := Lib.hid hins
  clear hI hins
  have hz := szFs_any w.heap.size a0 r0 cap0 w I.out (Nat.le_refl _) hcap INS.out
  by_cases hl : r0.length + ftotal r0 ≤ 1048576
  · rw [if_pos hl] at hz
    have MI := Lib.hid (show ∀ v ∈ r0, v.rs.length ≤ 1000000000 from fun v hv => by have := in_ftotal v hv; omega)
    have MJ := Lib.hid (show ∀ v ∈ r0, v.rs.length ≤ 1000000000000 from fun v hv => by have := in_ftotal v hv; omega)
    have MK := Lib.hid (show ∀ v ∈ r0, v.rs.length ≤ 2000000 ∧ v.s.size ≤ 1000000000 from fun v hv => by have := in_ftotal v hv; omega)
    obtain ⟨lf, hlf⟩ : ∃ lf : Int, 1048576 - (r0.length : Int) - (ftotal r0 : Int) = lf := ⟨_, rfl⟩
    have hl0 : 0 ≤ lf := by omega
    have hl1 : r0.length ≤ 1048576 := by omega
    rw [hlf] at hz
    clear hlf hl
    have HZ := Lib.hid hz
    clear hz
    obtain ⟨x, HX⟩ : ∃ x, Hid (pout r0 = x) := ⟨_, rfl⟩
    obtain ⟨ok, HK⟩ : ∃ b, Hid (pok r0 = b) := ⟨_, rfl⟩
    have hne : (ok != ok) = false := by cases ok <;> rfl
    go_enter Try.func4, Try.ntmps4
    go_wp2_with fail
    refine HZ.out.mono ?_
    rintro e w0 ⟨rfl, hB⟩
    have B0 := Lib.hid hB
    clear hB
    go_wp2_with fail
    with_reducible refine (toFs_any w.heap.size a0 r0 cap0 w0 (I.out.below B0.out) B0.out.size (by omega) MI.out).mono ?_
    rintro e w1 ⟨A1, c1, rfl, hO, hB⟩
    have O1 := Lib.hid hO
    have B1 := Lib.hid (drew2 B0.out hB)
    clear hO hB
    go_wp2_with fail
    with_reducible refine (sfs_any w1.heap.size A1 r0 c1 w1 O1.out (Nat.le_refl _) (by omega) MK.out x ok HX.out HK.out).mono ?_
    rintro e w2 ⟨rfl, hB⟩
    have B2 := Lib.hid (drew2 B1.out hB)
    clear hB
    go_wp2_with fail
    with_reducible refine (toFs_any w.heap.size a0 r0 cap0 w2 (I.out.below B2.out) B2.out.size (by omega) MI.out).mono ?_
    rintro e w3 ⟨A3, c3, rfl, hO, hB⟩
    have O3 := Lib.hid hO
    have B3 := Lib.hid (drew2 B2.out hB)
    clear hO hB
    go_wp2_with fail
    with_reducible refine (ifs_any w3.heap.size A3 r0 c3 w3 O3.out (Nat.le_refl _) (by omega) MK.out x ok HX.out HK.out).mono ?_
    rintro e w4 ⟨rfl, hB⟩
    have O4 := Lib.hid ((O3.out.below hB).mono hB.size)
    have B4 := Lib.hid (drew2 B3.out hB)
    clear hB
    go_wp2_with fail
    with_reducible refine (toFs_any w.heap.size a0 r0 cap0 w4 (I.out.below B4.out) B4.out.size (by omega) MI.out).mono ?_
    rintro e w5 ⟨A5, c5, rfl, hO, hB⟩
    have O5 := Lib.hid hO
    have O6 := Lib.hid ((O4.out.below hB).mono hB.size)
    have B5 := Lib.hid (drew2 B4.out hB)
    clear hO hB
    go_wp2_with fail
    with_reducible refine (eqFs_same w5.heap.size w5.heap.size A3 A5 r0 c3 c5 w5 O6.out O5.out (Nat.le_refl _) (Nat.le_refl _) (by omega) MJ.out).mono ?_
    rintro e w6 ⟨rfl, hB⟩
    have B6 := Lib.hid (drew2 B5.out hB)
    clear hB
    go_wp2
    go_ret
    exact ⟨rfl, B6.out⟩
  · rw [if_neg hl] at hz
    have HZ := Lib.hid hz
    clear hz
    go_enter Try.func4, Try.ntmps4
    go_wp2_with fail
    refine HZ.out.mono ?_
    rintro e w1 ⟨rfl, hB⟩
    have B1 := Lib.hid hB
    clear hB
    go_wp2
    go_ret
    exact ⟨rfl, B1.out⟩
set_option maxRecDepth 100000 in
theorem lifted (os : Os) (started : os.Started) (H : Type) (enc : TypeId × Value → H) :
    ReturnsInHanded {} Try.checked os 4 .any (Rows.fnExactFramesEncodeSpec.pre6 enc Try.prog Try.f4 Rows.fnExactFramesEncodeRow.domain false) (Rows.fnExactFramesEncodeSpec.post enc Try.prog Try.f4 false true false false) := by
  refine returnsInHanded_of_change (C := Try.checked) own started (by kernel_rfl) Try.func4
    (ChangeSpec.witness6 (enc := enc) (C := Try.checked) false ⟨#[], #[.slice none 0 0], []⟩ 8 (by kernel_rfl) (by kernel_rfl) (by kernel_rfl) (by kernel_rfl)) ?_
  intro W base args ds gs before hval0 hW hcnd _
  have hval : ∀ (j : Nat) t v, Try.f4.params[j]? = some t → args[j]? = some v → Value.okWide Try.prog W .any base t v := hval0
  have hW' := hW
  obtain ⟨p, q, hA0, hV, rfl, hfz, hnd⟩ := hW
  have hA : DataW.TrodAll enc Try.prog W 0 (fun _ => true) true Try.f4.params.toList args.toList ds p := hA0
  rw [Try.params4] at hA hval
  obtain ⟨v0, vs0, d0, ds0, p0, q0, hargs, rfl, rfl, h0, r_0⟩ := trodAll_cons hA
  obtain ⟨rfl, rfl, rfl⟩ := trodAll_nil r_0
  obtain rfl : args = #[v0] := by cases args; simp_all
  obtain ⟨rfl, rfl⟩ := trodVars_none hV
  obtain ⟨a0, len0, cap0, rfl⟩ := okWide_slice Try.underlying30 (hval 0 30 v0 rfl rfl)
  have k0 := h0
  have lt0 : ∀ x ∈ p0, x.block < W.heap.size := by obtain ⟨m, hm⟩ := k0; exact DataW.trod_lt m _ _ _ hm
  obtain ⟨r0, w0⟩ : ∃ fs : List Fv, fs.length = len0 ∧ FsIn W W.heap.size a0 fs ∧ len0 ≤ 9223372036854775807 ∧ ∀ v ∈ fs, v.rs.length ≤ 9223372036854775807 ∧ v.s.size ≤ 9223372036854775807 := by
    obtain ⟨fuel, hf⟩ := h0
    obtain ⟨hb, fs, h1, h2, h3⟩ := open_fs hf
    exact ⟨fs, h1, h2, hb, h3⟩
  clear hA0 hval0
  refine (walk a0 len0 cap0 r0 W w0).mono fun e W' ⟨he, bel⟩ => ?_
  subst he
  exact ⟨_, rfl, _, _, _, [], _, [], hW', trodAll_mk1 (shut_bool Try.underlying4 _), (trodAll_cons_mk (Below.trod laidOut (by kernel_rfl) (of_decide_eq_true (by kernel_rfl)) k0 bel lt0) trodAll_mk0), rfl, bel.frame _, fun h => by cases h⟩
theorem closed : joinedFacts Try.prog 4 Try.f4 Rows.fnExactFramesEncodeSpec Rows.fnExactFramesEncodeRow = true := by
  unfold joinedFacts
  rw [mayEnter_ok, lifts_ok, make_ok]
  kernel_rfl
theorem over : Rows.fnExactFramesEncodeRow.holds Try.pinned (OpenSpec.ofChange Rows.fnExactFramesEncodeSpec) :=
  OpenClaim.holds_of_wide 4 Try.f4 rfl rfl rfl rfl rfl rfl rfl ⟨rfl, rfl, rfl, rfl, rfl⟩ rfl rfl rfl rfl rfl (by kernel_rfl) Try.func4 closed
    (of_decide_eq_true (by kernel_rfl)) (by unfold Func.isWrapper; first | (rw [if_pos (by decide +kernel)]; kernel_rfl) | (rw [if_neg (by decide +kernel)]; exact ⟨rfl, rfl⟩))
    (fun os started H enc _ => lifted os started H enc)
theorem proved : Rows.FnExactFramesEncodeSaid := over
#print axioms proved
end Go.Proofs.Ytibnjbbiagjnjaa.fnExactFramesEncode
