/- Proved: the law FnExactRangesAdd returns true for every input and leaves its arguments as they were: The program's RangesAdd returns what the reference's returns, for all arguments. No condition. -/
import Derived.Test.YtclfkkapahdgaaaRows
import Derived.WalkKit
import Derived.ProofKit
import Derived.OpenShut
import Derived.ShutString
import Derived.ChangeOld
import Derived.Below
import Derived.Test.YtclfkkapahdgaaaHead
import Derived.Test.YtclfkkapahdgaaaHead
import Derived.Test.YtclfkkapahdgaaaOpenRs
import Derived.Test.YtclfkkapahdgaaaRMark
import Derived.Test.YtclfkkapahdgaaaRAddAll
import Derived.Test.YtclfkkapahdgaaaRUnion
namespace Go.Proofs.Ytclfkkapahdgaaa.fnExactRangesAdd
open Go.ChangeShapes Go.WideShapes Go.ChangeAt Go.RowKit
set_option linter.unusedVariables false
theorem own : ownKnob Try.prog.godebug = none := by kernel_rfl
theorem laidOut : laidOutB Try.prog = true := by kernel_rfl
theorem eq_same (B B' : Nat) (A A' : Option Addr) (xs : List Rg) (c c' : Nat) (w : World) (h : RsIn w B A xs) (h' : RsIn w B' A' xs) (hBw : B ≤ w.heap.size) (hBw' : B' ≤ w.heap.size) (hm : xs.length ≤ 1000000000000) :
    Calls Try.prog 25 #[.slice A xs.length c, .slice A' xs.length c'] w (BoolPost w true) :=
  (eqRs_any B B' A A' xs xs c c' w h h' hBw hBw' hm).mono fun _ _ ⟨he, hb⟩ => ⟨by rw [he, decide_eq_true rfl], hb⟩
def Pair2 (w : World) (qs : List Rg) (ok : Bool) (e : Ending) (w' : World) : Prop := ∃ A c, e = .returned (.tuple #[.slice A qs.length c, .bool ok]) ∧ OwnRs w' w.heap.size A c qs ∧ Below w.heap.size w w'
def Row2 (w : World) (qs : List Rg) (e : Ending) (w' : World) : Prop := ∃ A c, e = .returned (.slice A qs.length c) ∧ OwnRs w' w.heap.size A c qs ∧ Below w.heap.size w w'
theorem few_len (rs : List Rg) : (few rs).1.length ≤ 16 := by unfold few; split <;> simp; omega
theorem addOf_len (rs : List Rg) (lo hi : Int) : (addOf rs lo hi).1.length ≤ 16 := by
  unfold addOf; split
  · exact few_len _
  · simp
theorem sp_of {r0 qs : List Rg} {ok : Bool} {a1 a2 : Int} (A : Option Addr) (c : Nat) (w : World) {B : Nat} (hB : B ≤ w.heap.size) (h : RsIn w B A r0) (hm : r0.length ≤ 2000000) (hp : addOf r0 a1 a2 = (qs, ok)) : Calls Try.prog 41 #[.slice A r0.length c, .int .i64 a1, .int .i64 a2] w (Pair2 w qs ok) := by
  have hh := saddAll_any B A r0 c a1 a2 w h hB hm
  rw [hp] at hh; exact hh
theorem im_of {r0 qs : List Rg} {ok : Bool} {a1 a2 : Int} (A : Option Addr) (c : Nat) (w : World) {B : Nat} (hB : B ≤ w.heap.size) (h : RsIn w B A r0) (hm : r0.length ≤ 2000000) (hc : r0.length ≤ c) (hp : addOf r0 a1 a2 = (qs, ok)) : Calls Try.prog 35 #[.slice A r0.length c, .int .i64 a1, .int .i64 a2] w (Pair2 w qs ok) := by
  have hh := iaddAll_any B A r0 c a1 a2 w h hB hm hc
  rw [hp] at hh; exact hh
theorem walk (a0 : Option Addr) (len0 cap0 : Nat) (r0 : List Rg) (a1 : Int) (a2 : Int) (w : World) (w0 : r0.length = len0 ∧ RsIn w w.heap.size a0 r0 ∧ len0 ≤ 9223372036854775807) (w1 : (Lit.int .i64 a1).wf = true) (w2 : (Lit.int .i64 a2).wf = true) :
    Calls Try.prog 11 #[.slice a0 len0 cap0, .int .i64 a1, .int .i64 a2] w fun e w' => e = .returned (.bool true) ∧ Below w.heap.size w w' := by
  obtain ⟨hxl0, hI0, hcap0⟩ := w0
  subst hxl0
  have I0 := Lib.hid hI0
  clear hI0
  by_cases hl0 : (r0.length : Int) ≤ 1048576
  · obtain ⟨⟨qs, ok⟩, hp⟩ : ∃ p, addOf r0 a1 a2 = p := ⟨_, rfl⟩
    have hq : qs.length ≤ 16 := by have := addOf_len r0 a1 a2; rw [hp] at this; exact this
    have hne : (ok != ok) = false := by cases ok <;> rfl
    have HP := Lib.hid hp
    clear hp
    have BB0 := Lib.hid (Below.refl w.heap.size w)
    go_enter Try.func11, Try.ntmps11
    go_wp2_with fail
    refine (size_fits _ _ _ _ _ (by omega) (by omega)).mono ?_
    rintro e u_9 ⟨rfl, rfl⟩
    go_wp2_with fail
    with_reducible refine (toRs_any w.heap.size a0 r0 cap0 w (I0.out.below BB0.out) BB0.out.size (by omega)).mono ?_
    rintro e v1 ⟨A_s0, c_s0, rfl, hO, hB⟩
    have Os0_v1 := Lib.hid hO
    have Ls0 := Lib.hid hO.span
    clear hO
    have B_v1 := Lib.hid (drew2 BB0.out hB)
    have z_v1 : w.heap.size ≤ v1.heap.size := hB.size
    clear hB BB0
    go_wp2_with fail
    with_reducible refine (sp_of A_s0 c_s0 v1 (Nat.le_refl _) Os0_v1.out.in_ (by omega)  HP.out).mono ?_
    rintro e v2 ⟨A_W, c_W, rfl, hO, hB⟩
    have Os0_v2 := Lib.hid (Os0_v1.out.below hB)
    clear Os0_v1
    have OW_v2 := Lib.hid hO
    have LW := Lib.hid hO.span
    clear hO
    have B_v2 := Lib.hid (drew2 B_v1.out hB)
    have z_v2 : v1.heap.size ≤ v2.heap.size := hB.size
    clear hB B_v1
    go_wp2_with fail
    clear Os0_v2 Ls0
    with_reducible refine (toRs_any w.heap.size a0 r0 cap0 v2 (I0.out.below B_v2.out) B_v2.out.size (by omega)).mono ?_
    rintro e v3 ⟨A_x0, c_x0, rfl, hO, hB⟩
    have OW_v3 := Lib.hid (OW_v2.out.below hB)
    clear OW_v2
    have Ox0_v3 := Lib.hid hO
    have Lx0 := Lib.hid hO.span
    clear hO
    have B_v3 := Lib.hid (drew2 B_v2.out hB)
    have z_v3 : v2.heap.size ≤ v3.heap.size := hB.size
    clear hB B_v2
    go_wp2_with fail
    with_reducible refine (im_of A_x0 c_x0 v3 (Nat.le_refl _) Ox0_v3.out.in_ (by omega) Ox0_v3.out.cap HP.out).mono ?_
    rintro e v4 ⟨A_G, c_G, rfl, hO, hB⟩
    have OW_v4 := Lib.hid (OW_v3.out.below hB)
    clear OW_v3
    have Ox0_v4 := Lib.hid (Ox0_v3.out.below hB)
    clear Ox0_v3
    have OG_v4 := Lib.hid hO
    have LG := Lib.hid hO.span
    clear hO
    have B_v4 := Lib.hid (drew2 B_v3.out hB)
    have z_v4 : v3.heap.size ≤ v4.heap.size := hB.size
    clear hB B_v3
    go_wp2_with fail
    with_reducible refine (eq_same v4.heap.size v4.heap.size A_G A_W qs c_G c_W v4 OG_v4.out.in_ OW_v4.out.in_ (Nat.le_refl _) (Nat.le_refl _) (by omega)).mono ?_
    rintro e v5 ⟨rfl, hB⟩
    have OW_v5 := Lib.hid (OW_v4.out.below hB)
    clear OW_v4
    have Ox0_v5 := Lib.hid (Ox0_v4.out.below hB)
    clear Ox0_v4
    have OG_v5 := Lib.hid (OG_v4.out.below hB)
    clear OG_v4
    have B_v5 := Lib.hid (drew2 B_v4.out hB)
    have z_v5 : v4.heap.size ≤ v5.heap.size := hB.size
    clear hB B_v4
    go_wp2_with fail
    with_reducible refine (toRs_any w.heap.size a0 r0 cap0 v5 (I0.out.below B_v5.out) B_v5.out.size (by omega)).mono ?_
    rintro e v6 ⟨A_t0, c_t0, rfl, hO, hB⟩
    have OW_v6 := Lib.hid (OW_v5.out.below hB)
    clear OW_v5
    have Ox0_v6 := Lib.hid (Ox0_v5.out.below hB)
    clear Ox0_v5
    have OG_v6 := Lib.hid (OG_v5.out.below hB)
    clear OG_v5
    have Ot0_v6 := Lib.hid hO
    have Lt0 := Lib.hid hO.span
    clear hO
    have B_v6 := Lib.hid (drew2 B_v5.out hB)
    have z_v6 : v5.heap.size ≤ v6.heap.size := hB.size
    clear hB B_v5
    go_wp2_with fail
    with_reducible refine (eq_same v6.heap.size v6.heap.size A_x0 A_t0 r0 c_x0 c_t0 v6 Ox0_v6.out.in_ Ot0_v6.out.in_ (Nat.le_refl _) (Nat.le_refl _) (by omega)).mono ?_
    rintro e v7 ⟨rfl, hB⟩
    have OW_v7 := Lib.hid (OW_v6.out.below hB)
    clear OW_v6
    have Ox0_v7 := Lib.hid (Ox0_v6.out.below hB)
    clear Ox0_v6
    have OG_v7 := Lib.hid (OG_v6.out.below hB)
    clear OG_v6
    have Ot0_v7 := Lib.hid (Ot0_v6.out.below hB)
    clear Ot0_v6
    have B_v7 := Lib.hid (drew2 B_v6.out hB)
    have z_v7 : v6.heap.size ≤ v7.heap.size := hB.size
    clear hB B_v6
    go_wp2_with fail
    clear Ot0_v7 Lt0
    with_reducible refine (rmark_any v2.heap.size A_x0 r0 c_x0 1 v7 Ox0_v7.out (by omega) (by omega) (by omega)).mono ?_
    rintro e v8 ⟨rfl, hO, hB, hG⟩
    have OW_v8 := Lib.hid (OW_v7.out.apart hG (fun j k hj hk => by have := LW.out j hj; have := Lx0.out k hk; omega))
    clear OW_v7
    have OG_v8 := Lib.hid (OG_v7.out.apart hG (fun j k hj hk => by have := LG.out j hj; have := Lx0.out k hk; omega))
    clear OG_v7
    clear Ox0_v7
    have Ox0_v8 := Lib.hid hO
    have B_v8 := Lib.hid (B_v7.out.trans (hB.mono (by omega)))
    have z_v8 : v7.heap.size ≤ v8.heap.size := hG.size
    clear hO hB hG B_v7
    go_wp2_with fail
    clear Ox0_v8 Lx0
    with_reducible refine (eq_same v8.heap.size v8.heap.size A_G A_W qs c_G c_W v8 OG_v8.out.in_ OW_v8.out.in_ (Nat.le_refl _) (Nat.le_refl _) (by omega)).mono ?_
    rintro e v9 ⟨rfl, hB⟩
    have OW_v9 := Lib.hid (OW_v8.out.below hB)
    clear OW_v8
    have OG_v9 := Lib.hid (OG_v8.out.below hB)
    clear OG_v8
    have B_v9 := Lib.hid (drew2 B_v8.out hB)
    have z_v9 : v8.heap.size ≤ v9.heap.size := hB.size
    clear hB B_v8
    go_wp2_with fail
    with_reducible refine (rmark_any v3.heap.size A_G qs c_G 1 v9 OG_v9.out (by omega) (by omega) (by omega)).mono ?_
    rintro e v10 ⟨rfl, hO, hB, hG⟩
    have OW_v10 := Lib.hid (OW_v9.out.apart hG (fun j k hj hk => by have := LW.out j hj; have := LG.out k hk; omega))
    clear OW_v9
    clear OG_v9
    have OG_v10 := Lib.hid hO
    have B_v10 := Lib.hid (B_v9.out.trans (hB.mono (by omega)))
    have z_v10 : v9.heap.size ≤ v10.heap.size := hG.size
    clear hO hB hG B_v9
    go_wp2_with fail
    with_reducible refine (rheld_any v10.heap.size qs.length A_G c_G 1 v10 OG_v10.out.in_ (by omega) (by omega) (by omega)).mono ?_
    rintro e u_132 ⟨rfl, rfl⟩
    go_wp2_with fail
    with_reducible refine (toRs_any w.heap.size a0 r0 cap0 v10 (I0.out.below B_v10.out) B_v10.out.size (by omega)).mono ?_
    rintro e v11 ⟨A_y0, c_y0, rfl, hO, hB⟩
    have OW_v11 := Lib.hid (OW_v10.out.below hB)
    clear OW_v10
    have OG_v11 := Lib.hid (OG_v10.out.below hB)
    clear OG_v10
    have Oy0_v11 := Lib.hid hO
    have Ly0 := Lib.hid hO.span
    clear hO
    have B_v11 := Lib.hid (drew2 B_v10.out hB)
    have z_v11 : v10.heap.size ≤ v11.heap.size := hB.size
    clear hB B_v10
    go_wp2_with fail
    with_reducible refine (im_of A_y0 c_y0 v11 (Nat.le_refl _) Oy0_v11.out.in_ (by omega) Oy0_v11.out.cap HP.out).mono ?_
    rintro e v12 ⟨A_H, c_H, rfl, hO, hB⟩
    have OW_v12 := Lib.hid (OW_v11.out.below hB)
    clear OW_v11
    have OG_v12 := Lib.hid (OG_v11.out.below hB)
    clear OG_v11
    have Oy0_v12 := Lib.hid (Oy0_v11.out.below hB)
    clear Oy0_v11
    have OH_v12 := Lib.hid hO
    have LH := Lib.hid hO.span
    clear hO
    have B_v12 := Lib.hid (drew2 B_v11.out hB)
    have z_v12 : v11.heap.size ≤ v12.heap.size := hB.size
    clear hB B_v11
    go_wp2_with fail
    clear Oy0_v12 Ly0
    with_reducible refine (eq_same v12.heap.size v12.heap.size A_H A_W qs c_H c_W v12 OH_v12.out.in_ OW_v12.out.in_ (Nat.le_refl _) (Nat.le_refl _) (by omega)).mono ?_
    rintro e v13 ⟨rfl, hB⟩
    have OW_v13 := Lib.hid (OW_v12.out.below hB)
    clear OW_v12
    have OG_v13 := Lib.hid (OG_v12.out.below hB)
    clear OG_v12
    have OH_v13 := Lib.hid (OH_v12.out.below hB)
    clear OH_v12
    have B_v13 := Lib.hid (drew2 B_v12.out hB)
    have z_v13 : v12.heap.size ≤ v13.heap.size := hB.size
    clear hB B_v12
    go_wp2_with fail
    with_reducible refine (rheld_any v13.heap.size qs.length A_G c_G 1 v13 OG_v13.out.in_ (by omega) (by omega) (by omega)).mono ?_
    rintro e u_176 ⟨rfl, rfl⟩
    go_wp2
    go_ret
    exact ⟨rfl, B_v13.out⟩
  · go_enter Try.func11, Try.ntmps11
    go_wp2_with fail
    refine (size_over _ _ _ _ _ (by omega) (by omega) (by omega) (by omega)).mono ?_
    rintro e u ⟨rfl, rfl⟩
    go_wp2
    go_ret
    exact ⟨rfl, Below.refl _ _⟩
set_option maxRecDepth 100000 in
theorem lifted (os : Os) (started : os.Started) (H : Type) (enc : TypeId × Value → H) :
    ReturnsInHanded {} Try.checked os 11 .any (Rows.fnExactRangesAddSpec.pre6 enc Try.prog Try.f11 Rows.fnExactRangesAddRow.domain false) (Rows.fnExactRangesAddSpec.post enc Try.prog Try.f11 false true false false) := by
  refine returnsInHanded_of_change (C := Try.checked) own started (by kernel_rfl) Try.func11
    (ChangeSpec.witness6 (enc := enc) (C := Try.checked) false ⟨#[], #[.slice none 0 0, .int .i64 0, .int .i64 0], []⟩ 8 (by kernel_rfl) (by kernel_rfl) (by kernel_rfl) (by kernel_rfl)) ?_
  intro W base args ds gs before hval0 hW hcnd _
  have hval : ∀ (j : Nat) t v, Try.f11.params[j]? = some t → args[j]? = some v → Value.okWide Try.prog W .any base t v := hval0
  have hW' := hW
  obtain ⟨p, q, hA0, hV, rfl, hfz, hnd⟩ := hW
  have hA : DataW.TrodAll enc Try.prog W 0 (fun _ => true) true Try.f11.params.toList args.toList ds p := hA0
  rw [Try.params11] at hA hval
  obtain ⟨v0, vs0, d0, ds0, p0, q0, hargs, rfl, rfl, h0, r_0⟩ := trodAll_cons hA
  obtain ⟨v1, vs1, d1, ds1, p1, q1, rfl, rfl, rfl, h1, r_1⟩ := trodAll_cons r_0
  obtain ⟨v2, vs2, d2, ds2, p2, q2, rfl, rfl, rfl, h2, r_2⟩ := trodAll_cons r_1
  obtain ⟨rfl, rfl, rfl⟩ := trodAll_nil r_2
  obtain rfl : args = #[v0, v1, v2] := by cases args; simp_all
  obtain ⟨rfl, rfl⟩ := trodVars_none hV
  obtain ⟨a0, len0, cap0, rfl⟩ := okWide_slice Try.underlying22 (hval 0 22 v0 rfl rfl)
  have k0 := h0
  have lt0 : ∀ x ∈ p0, x.block < W.heap.size := by obtain ⟨m, hm⟩ := k0; exact DataW.trod_lt m _ _ _ hm
  obtain ⟨r0, w0⟩ : ∃ rs : List Rg, rs.length = len0 ∧ RsIn W W.heap.size a0 rs ∧ len0 ≤ 9223372036854775807 := by
    obtain ⟨fuel, hf⟩ := h0
    obtain ⟨hb, rs, h1, h2⟩ := open_rs hf
    exact ⟨rs, h1, h2, hb⟩
  obtain ⟨a1, rfl, rfl, rfl, w1⟩ := open_int Try.underlying3 (hval 1 3 v1 rfl rfl) h1
  obtain ⟨a2, rfl, rfl, rfl, w2⟩ := open_int Try.underlying3 (hval 2 3 v2 rfl rfl) h2
  clear hA0 hval0
  refine (walk a0 len0 cap0 r0 a1 a2 W w0 w1 w2).mono fun e W' ⟨he, bel⟩ => ?_
  subst he
  exact ⟨_, rfl, _, _, _, [], _, [], hW', trodAll_mk1 (shut_bool Try.underlying4 _), (trodAll_cons_mk (Below.trod laidOut (by kernel_rfl) (of_decide_eq_true (by kernel_rfl)) k0 bel lt0) (trodAll_cons_mk (shut_int Try.underlying3 w1) (trodAll_cons_mk (shut_int Try.underlying3 w2) trodAll_mk0))), rfl, bel.frame _, fun h => by cases h⟩
theorem closed : joinedFacts Try.prog 11 Try.f11 Rows.fnExactRangesAddSpec Rows.fnExactRangesAddRow = true := by
  unfold joinedFacts
  rw [mayEnter_ok, lifts_ok, make_ok]
  kernel_rfl
theorem over : Rows.fnExactRangesAddRow.holds Try.pinned (OpenSpec.ofChange Rows.fnExactRangesAddSpec) :=
  OpenClaim.holds_of_wide 11 Try.f11 rfl rfl rfl rfl rfl rfl rfl ⟨rfl, rfl, rfl, rfl, rfl⟩ rfl rfl rfl rfl rfl (by kernel_rfl) Try.func11 closed
    (of_decide_eq_true (by kernel_rfl)) (by unfold Func.isWrapper; first | (rw [if_pos (by decide +kernel)]; kernel_rfl) | (rw [if_neg (by decide +kernel)]; exact ⟨rfl, rfl⟩))
    (fun os started H enc _ => lifted os started H enc)
theorem proved : Rows.FnExactRangesAddSaid := over
#print axioms proved
end Go.Proofs.Ytclfkkapahdgaaa.fnExactRangesAdd
