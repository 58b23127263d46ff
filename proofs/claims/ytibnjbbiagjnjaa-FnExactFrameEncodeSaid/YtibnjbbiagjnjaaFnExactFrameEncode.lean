/- Proved: the law FnExactFrameEncode returns true for every input and leaves its arguments as they were: The program's FrameEncode returns what the reference's returns, for all arguments. No condition. -/
import Derived.Test.YtibnjbbiagjnjaaRows
import Derived.WalkKit
import Derived.ProofKit
import Derived.OpenShut
import Derived.ShutString
import Derived.ChangeOld
import Derived.Below
import Derived.Test.YtibnjbbiagjnjaaHead
import Derived.Test.YtibnjbbiagjnjaaHead
import Derived.Test.YtibnjbbiagjnjaaOpenFr
import Derived.Test.YtibnjbbiagjnjaaFCopy
import Derived.Test.YtibnjbbiagjnjaaFEncI
namespace Go.Proofs.Ytibnjbbiagjnjaa.fnExactFrameEncode
open Go.ChangeShapes Go.WideShapes Go.ChangeAt Go.RowKit
set_option linter.unusedVariables false
theorem own : ownKnob Try.prog.godebug = none := by kernel_rfl
theorem laidOut : laidOutB Try.prog = true := by kernel_rfl
theorem walk (fk fa fb fc : Int) (fs : ByteArray) (a0 : Option Addr) (len0 cap0 : Nat) (r0 : List Rg) (w : World) (w0 : r0.length = len0 ∧ RsIn w w.heap.size a0 r0 ∧ len0 ≤ 9223372036854775807 ∧ fs.size ≤ 9223372036854775807) :
    Calls Try.prog 10 #[.agg #[.int .i64 fk, .int .i64 fa, .int .i64 fb, .int .i64 fc, .string fs, .slice a0 len0 cap0]] w fun e w' => e = .returned (.bool true) ∧ Below w.heap.size w w' := by
  obtain ⟨hxl, hI, hcap, hsz⟩ := w0
  subst hxl
  have I := Lib.hid hI
  clear hI
  have B0 := Lib.hid ((Below.refl w.heap.size w).alloc (Nat.le_refl _) (.cells #[.int .i64 fk, .int .i64 fa, .int .i64 fb, .int .i64 fc, .string fs, .slice a0 r0.length cap0] 43))
  by_cases hl : fs.size + r0.length ≤ 1048576
  · obtain ⟨q, hq⟩ : ∃ q, fenc ⟨fk, fa, fb, fc, fs.data.toList, r0⟩ = q := ⟨_, rfl⟩
    have Q := Lib.hid hq
    skip
    clear hq
    go_enter Try.func10, Try.ntmps10
    go_wp2_with fail
    refine (sizeF_fits fk fa fb fc fs a0 r0.length cap0 _ hl).mono ?_
    rintro e v1 ⟨rfl, hB⟩
    have BW1 := Lib.hid hB
    obtain ⟨hc, hf⟩ := bcell hB
    have B1 := Lib.hid (drew2 B0.out hB)
    clear hB hf
    go_wp2_with fail
    clear hc
    refine (toF_any fk fa fb fc fs w.heap.size r0 a0 cap0 v1 (I.out.below B1.out) B1.out.size (by omega)).mono ?_
    rintro e v2 ⟨A2, c2, rfl, hO, hB⟩
    have O2 := Lib.hid hO
    have BW2 := Lib.hid (drew2 BW1.out hB)
    have B2 := Lib.hid (drew2 B1.out hB)
    clear hB hO
    go_wp2_with fail
    refine (sfenc_any fk fa fb fc fs v2.heap.size r0 A2 c2 v2 O2.out.in_ (Nat.le_refl _) (by omega) (by omega) q Q.out).mono ?_
    rintro e v3 ⟨rfl, hB⟩
    have BW3 := Lib.hid (drew2 BW2.out hB)
    obtain ⟨hc, hf⟩ := bcell BW3.out
    have B3 := Lib.hid (drew2 B2.out hB)
    clear hB hf O2 BW1 BW2
    go_wp2_with fail
    clear hc
    refine (toF_any fk fa fb fc fs w.heap.size r0 a0 cap0 v3 (I.out.below B3.out) B3.out.size (by omega)).mono ?_
    rintro e v4 ⟨A4, c4, rfl, hO, hB⟩
    have O4 := Lib.hid (hO.alloc (.cells #[.int .i64 fk, .int .i64 fa, .int .i64 fb, .int .i64 fc, .string fs, .slice A4 r0.length c4] 25))
    have BW4 := Lib.hid ((drew2 BW3.out hB).alloc (drew2 BW3.out hB).size (.cells #[.int .i64 fk, .int .i64 fa, .int .i64 fb, .int .i64 fc, .string fs, .slice A4 r0.length c4] 25))
    have B4 := Lib.hid ((drew2 B3.out hB).alloc (drew2 B3.out hB).size (.cells #[.int .i64 fk, .int .i64 fa, .int .i64 fb, .int .i64 fc, .string fs, .slice A4 r0.length c4] 25))
    clear hB hO
    go_wp2_with fail
    refine (ifenc_any fk fa fb fc fs _ r0 A4 c4 (v4.alloc (.cells #[.int .i64 fk, .int .i64 fa, .int .i64 fb, .int .i64 fc, .string fs, .slice A4 r0.length c4] 25)) O4.out.in_ (Nat.le_refl _) (by omega) (by omega) q Q.out).mono ?_
    rintro e v5 ⟨rfl, hB⟩
    have O5 := Lib.hid (O4.out.below hB)
    have BW5 := Lib.hid (drew2 BW4.out hB)
    have B5 := Lib.hid (drew2 B4.out hB)
    have hz : v4.heap.size < v5.heap.size := by have := hB.size; simp at this; omega
    have hzw : w.heap.size < v5.heap.size := by have := BW5.out.size; simp at this; omega
    obtain ⟨hc1, hf1⟩ := bcell hB
    obtain ⟨hc2, hf2⟩ := bcell BW5.out
    have y0 : v5.cell? ⟨v4.heap.size, 0, none⟩ = some (.int .i64 fk) := by rw [hc1 _ _ (by simp), cell_of_row _ _ _ _ _ _ (heap_alloc_new v4 _)]; rfl
    have y1 : v5.cell? ⟨v4.heap.size, 1, none⟩ = some (.int .i64 fa) := by rw [hc1 _ _ (by simp), cell_of_row _ _ _ _ _ _ (heap_alloc_new v4 _)]; rfl
    have y2 : v5.cell? ⟨v4.heap.size, 2, none⟩ = some (.int .i64 fb) := by rw [hc1 _ _ (by simp), cell_of_row _ _ _ _ _ _ (heap_alloc_new v4 _)]; rfl
    have y3 : v5.cell? ⟨v4.heap.size, 3, none⟩ = some (.int .i64 fc) := by rw [hc1 _ _ (by simp), cell_of_row _ _ _ _ _ _ (heap_alloc_new v4 _)]; rfl
    have y4 : v5.cell? ⟨v4.heap.size, 4, none⟩ = some (.string fs) := by rw [hc1 _ _ (by simp), cell_of_row _ _ _ _ _ _ (heap_alloc_new v4 _)]; rfl
    have y5 : v5.cell? ⟨v4.heap.size, 5, none⟩ = some (.slice A4 r0.length c4) := by rw [hc1 _ _ (by simp), cell_of_row _ _ _ _ _ _ (heap_alloc_new v4 _)]; rfl
    have z0 : v5.cell? ⟨w.heap.size, 0, none⟩ = some (.int .i64 fk) := by rw [hc2 _ _ (by simp), cell_of_row _ _ _ _ _ _ (heap_alloc_new w _)]; rfl
    have z1 : v5.cell? ⟨w.heap.size, 1, none⟩ = some (.int .i64 fa) := by rw [hc2 _ _ (by simp), cell_of_row _ _ _ _ _ _ (heap_alloc_new w _)]; rfl
    have z2 : v5.cell? ⟨w.heap.size, 2, none⟩ = some (.int .i64 fb) := by rw [hc2 _ _ (by simp), cell_of_row _ _ _ _ _ _ (heap_alloc_new w _)]; rfl
    have z3 : v5.cell? ⟨w.heap.size, 3, none⟩ = some (.int .i64 fc) := by rw [hc2 _ _ (by simp), cell_of_row _ _ _ _ _ _ (heap_alloc_new w _)]; rfl
    have z4 : v5.cell? ⟨w.heap.size, 4, none⟩ = some (.string fs) := by rw [hc2 _ _ (by simp), cell_of_row _ _ _ _ _ _ (heap_alloc_new w _)]; rfl
    have z5 : v5.cell? ⟨w.heap.size, 5, none⟩ = some (.slice a0 r0.length cap0) := by rw [hc2 _ _ (by simp), cell_of_row _ _ _ _ _ _ (heap_alloc_new w _)]; rfl
    clear hc1 hf1 hc2 hf2 hB BW3 BW4 BW5
    go_wp2_with fail
    go_region_held3 (fun w' => w'.cell? ⟨v4.heap.size, 0, none⟩ = some (.int .i64 fk) ∧ w'.cell? ⟨v4.heap.size, 1, none⟩ = some (.int .i64 fa) ∧ w'.cell? ⟨v4.heap.size, 2, none⟩ = some (.int .i64 fb) ∧ w'.cell? ⟨v4.heap.size, 3, none⟩ = some (.int .i64 fc) ∧ w'.cell? ⟨v4.heap.size, 4, none⟩ = some (.string fs) ∧ w'.cell? ⟨v4.heap.size, 5, none⟩ = some (.slice A4 r0.length c4) ∧ w'.cell? ⟨w.heap.size, 0, none⟩ = some (.int .i64 fk) ∧ w'.cell? ⟨w.heap.size, 1, none⟩ = some (.int .i64 fa) ∧ w'.cell? ⟨w.heap.size, 2, none⟩ = some (.int .i64 fb) ∧ w'.cell? ⟨w.heap.size, 3, none⟩ = some (.int .i64 fc) ∧ w'.cell? ⟨w.heap.size, 4, none⟩ = some (.string fs) ∧ w'.cell? ⟨w.heap.size, 5, none⟩ = some (.slice a0 r0.length cap0)) (first | go_keep | (exact ⟨(hX.cell (p := ⟨v4.heap.size, 0, none⟩) hz).trans y0, (hX.cell (p := ⟨v4.heap.size, 1, none⟩) hz).trans y1, (hX.cell (p := ⟨v4.heap.size, 2, none⟩) hz).trans y2, (hX.cell (p := ⟨v4.heap.size, 3, none⟩) hz).trans y3, (hX.cell (p := ⟨v4.heap.size, 4, none⟩) hz).trans y4, (hX.cell (p := ⟨v4.heap.size, 5, none⟩) hz).trans y5, (hX.cell (p := ⟨w.heap.size, 0, none⟩) hzw).trans z0, (hX.cell (p := ⟨w.heap.size, 1, none⟩) hzw).trans z1, (hX.cell (p := ⟨w.heap.size, 2, none⟩) hzw).trans z2, (hX.cell (p := ⟨w.heap.size, 3, none⟩) hzw).trans z3, (hX.cell (p := ⟨w.heap.size, 4, none⟩) hzw).trans z4, (hX.cell (p := ⟨w.heap.size, 5, none⟩) hzw).trans z5⟩)) ((first | (go_at_call 24; refine (toF_any fk fa fb fc fs w.heap.size r0 a0 cap0 _ (I.out.below B5.out.drew) B5.out.drew.size (by omega)).mono ?_; rintro e v6 ⟨A6, c6, rfl, hO6, hB6⟩; have hX := (Below.refl v5.heap.size v5).drew.trans hB6) | (go_at_call 25; refine (eqF_same fk fa fb fc fs _ _ r0 A4 A6 c4 c6 _ (O5.out.below hX).in_ hO6.in_ (Nat.le_refl _) (Nat.le_refl _) (by omega)).mono ?_; rintro e v7 ⟨rfl, hB7⟩; have hX := hX.trans (hB7.mono hX.size))))
    have B7 := Lib.hid (drew2 B5.out hX)
    go_wp2
    go_ret
    exact ⟨rfl, B7.out⟩
  · go_enter Try.func10, Try.ntmps10
    go_wp2_with fail
    refine (sizeF_over fk fa fb fc fs a0 r0.length cap0 _ (by omega) (by omega) (by omega)).mono ?_
    rintro e v1 ⟨rfl, hB⟩
    have B1 := Lib.hid (drew2 B0.out hB)
    clear hB
    go_wp2
    go_ret
    exact ⟨rfl, B1.out⟩
set_option maxRecDepth 100000 in
theorem lifted (os : Os) (started : os.Started) (H : Type) (enc : TypeId × Value → H) :
    ReturnsInHanded {} Try.checked os 10 .any (Rows.fnExactFrameEncodeSpec.pre6 enc Try.prog Try.f10 Rows.fnExactFrameEncodeRow.domain false) (Rows.fnExactFrameEncodeSpec.post enc Try.prog Try.f10 false true false false) := by
  refine returnsInHanded_of_change (C := Try.checked) own started (by kernel_rfl) Try.func10
    (ChangeSpec.witness6 (enc := enc) (C := Try.checked) false ⟨#[], #[.agg #[.int .i64 0, .int .i64 0, .int .i64 0, .int .i64 0, .string ⟨#[]⟩, .slice none 0 0]], []⟩ 8 (by kernel_rfl) (by kernel_rfl) (by kernel_rfl) (by kernel_rfl)) ?_
  intro W base args ds gs before hval0 hW hcnd _
  have hval : ∀ (j : Nat) t v, Try.f10.params[j]? = some t → args[j]? = some v → Value.okWide Try.prog W .any base t v := hval0
  have hW' := hW
  obtain ⟨p, q, hA0, hV, rfl, hfz, hnd⟩ := hW
  have hA : DataW.TrodAll enc Try.prog W 0 (fun _ => true) true Try.f10.params.toList args.toList ds p := hA0
  rw [Try.params10] at hA hval
  obtain ⟨v0, vs0, d0, ds0, p0, q0, hargs, rfl, rfl, h0, r_0⟩ := trodAll_cons hA
  obtain ⟨rfl, rfl, rfl⟩ := trodAll_nil r_0
  obtain rfl : args = #[v0] := by cases args; simp_all
  obtain ⟨rfl, rfl⟩ := trodVars_none hV
  have k0 := h0
  have lt0 : ∀ x ∈ p0, x.block < W.heap.size := by obtain ⟨m, hm⟩ := k0; exact DataW.trod_lt m _ _ _ hm
  obtain ⟨fk, fa, fb, fc, fs, a0, len0, cap0, r0, rfl, w0⟩ := open_fr (hval 0 43 v0 rfl rfl) h0
  clear hA0 hval0
  refine (walk fk fa fb fc fs a0 len0 cap0 r0 W w0).mono fun e W' ⟨he, bel⟩ => ?_
  subst he
  exact ⟨_, rfl, _, _, _, [], _, [], hW', trodAll_mk1 (shut_bool Try.underlying4 _), (trodAll_cons_mk (Below.trod laidOut (by kernel_rfl) (of_decide_eq_true (by kernel_rfl)) k0 bel lt0) trodAll_mk0), rfl, bel.frame _, fun h => by cases h⟩
theorem closed : joinedFacts Try.prog 10 Try.f10 Rows.fnExactFrameEncodeSpec Rows.fnExactFrameEncodeRow = true := by
  unfold joinedFacts
  rw [mayEnter_ok, lifts_ok, make_ok]
  kernel_rfl
theorem over : Rows.fnExactFrameEncodeRow.holds Try.pinned (OpenSpec.ofChange Rows.fnExactFrameEncodeSpec) :=
  OpenClaim.holds_of_wide 10 Try.f10 rfl rfl rfl rfl rfl rfl rfl ⟨rfl, rfl, rfl, rfl, rfl⟩ rfl rfl rfl rfl rfl (by kernel_rfl) Try.func10 closed
    (of_decide_eq_true (by kernel_rfl)) (by unfold Func.isWrapper; first | (rw [if_pos (by decide +kernel)]; kernel_rfl) | (rw [if_neg (by decide +kernel)]; exact ⟨rfl, rfl⟩))
    (fun os started H enc _ => lifted os started H enc)
theorem proved : Rows.FnExactFrameEncodeSaid := over
#print axioms proved
end Go.Proofs.Ytibnjbbiagjnjaa.fnExactFrameEncode
