/- Proved: the law FnExactRangesUnion returns true for every input and leaves its arguments as they were: The program's RangesUnion returns what the reference's returns, for all arguments. No condition. -/
import Derived.Test.YtclfkkapahdgaaaRows
import Derived.WalkKit
import Derived.ProofKit
import Derived.OpenShut
import Derived.ShutString
import Derived.ChangeOld
import Derived.Below
import Derived.Test.YtclfkkapahdgaaaHead
import Derived.Test.YtclfkkapahdgaaaHead
import Derived.Test.YtclfkkapahdgaaaOpenRs
import Derived.Test.YtclfkkapahdgaaaRMark
import Derived.Test.YtclfkkapahdgaaaRUnion
namespace Go.Proofs.Ytclfkkapahdgaaa.fnExactRangesUnion
open Go.ChangeShapes Go.WideShapes Go.ChangeAt Go.RowKit
set_option linter.unusedVariables false
theorem own : ownKnob Try.prog.godebug = none := by kernel_rfl
theorem laidOut : laidOutB Try.prog = true := by kernel_rfl
theorem eq_same (B B' : Nat) (A A' : Option Addr) (xs : List Rg) (c c' : Nat) (w : World) (h : RsIn w B A xs) (h' : RsIn w B' A' xs) (hBw : B ≤ w.heap.size) (hBw' : B' ≤ w.heap.size) (hm : xs.length ≤ 1000000000000) :
    Calls Try.prog 25 #[.slice A xs.length c, .slice A' xs.length c'] w (BoolPost w true) :=
  (eqRs_any B B' A A' xs xs c c' w h h' hBw hBw' hm).mono fun _ _ ⟨he, hb⟩ => ⟨by rw [he, decide_eq_true rfl], hb⟩
def Pair2 (w : World) (qs : List Rg) (ok : Bool) (e : Ending) (w' : World) : Prop := ∃ A c, e = .returned (.tuple #[.slice A qs.length c, .bool ok]) ∧ OwnRs w' w.heap.size A c qs ∧ Below w.heap.size w w'
def Row2 (w : World) (qs : List Rg) (e : Ending) (w' : World) : Prop := ∃ A c, e = .returned (.slice A qs.length c) ∧ OwnRs w' w.heap.size A c qs ∧ Below w.heap.size w w'
theorem few_len (rs : List Rg) : (few rs).1.length ≤ 16 := by unfold few; split <;> simp; omega
theorem union_len (xs ys : List Rg) : (unionOf xs ys).1.length ≤ 16 := by
  unfold unionOf; split
  · exact few_len _
  · simp
theorem sp_of {r0 r1 qs : List Rg} {ok : Bool} (A : Option Addr) (c : Nat) (A' : Option Addr) (c' : Nat) (w : World) {B : Nat} (hB : B ≤ w.heap.size) (h : RsIn w B A r0) (h' : RsIn w B A' r1) (hm : r0.length ≤ 2000000) (hm' : r1.length ≤ 2000000) (hp : unionOf r0 r1 = (qs, ok)) : Calls Try.prog 45 #[.slice A r0.length c, .slice A' r1.length c'] w (Pair2 w qs ok) := by
  have hh := sunion_any B B A A' r0 r1 c c' w h h' hB hB hm hm'
  rw [hp] at hh; exact hh
theorem im_of {r0 r1 qs : List Rg} {ok : Bool} (A : Option Addr) (c : Nat) (A' : Option Addr) (c' : Nat) (w : World) {B : Nat} (hB : B ≤ w.heap.size) (h : RsIn w B A r0) (h' : RsIn w B A' r1) (hm : r0.length ≤ 2000000) (hm' : r1.length ≤ 2000000) (_ : r0.length ≤ c) (_ : r1.length ≤ c') (hp : unionOf r0 r1 = (qs, ok)) : Calls Try.prog 44 #[.slice A r0.length c, .slice A' r1.length c'] w (Pair2 w qs ok) := by
  have hh := iunion_any B B A A' r0 r1 c c' w h h' hB hB hm hm'
  rw [hp] at hh; exact hh
theorem walk (a0 : Option Addr) (len0 cap0 : Nat) (r0 : List Rg) (a1 : Option Addr) (len1 cap1 : Nat) (r1 : List Rg) (w : World) (w0 : r0.length = len0 ∧ RsIn w w.heap.size a0 r0 ∧ len0 ≤ 9223372036854775807) (w1 : r1.length = len1 ∧ RsIn w w.heap.size a1 r1 ∧ len1 ≤ 9223372036854775807) :
    Calls Try.prog 15 #[.slice a0 len0 cap0, .slice a1 len1 cap1] w fun e w' => e = .returned (.bool true) ∧ Below w.heap.size w w' := by
  obtain ⟨hxl0, hI0, hcap0⟩ := w0
  subst hxl0
  have I0 := Lib.hid hI0
  clear hI0
  obtain ⟨hxl1, hI1, hcap1⟩ := w1
  subst hxl1
  have I1 := Lib.hid hI1
  clear hI1
  by_cases hl0 : (r0.length : Int) ≤ 1048576
  · by_cases hl1 : (r1.length : Int) ≤ (1048576 - r0.length)
    · obtain ⟨⟨qs, ok⟩, hp⟩ : ∃ p, unionOf r0 r1 = p := ⟨_, rfl⟩
      have hq : qs.length ≤ 16 := by have := union_len r0 r1; rw [hp] at this; exact this
      have hne : (ok != ok) = false := by cases ok <;> rfl
      have HP := Lib.hid hp
      clear hp
      have BB0 := Lib.hid (Below.refl w.heap.size w)
      go_enter Try.func15, Try.ntmps15
      go_wp2_with fail
      refine (size_fits _ _ _ _ _ (by omega) (by omega)).mono ?_
      rintro e u_9 ⟨rfl, rfl⟩
      go_wp2_with fail
      refine (size_fits _ _ _ _ _ (by omega) (by omega)).mono ?_
      rintro e u_12 ⟨rfl, rfl⟩
      go_wp2_with fail
      with_reducible refine (toRs_any w.heap.size a0 r0 cap0 w (I0.out.below BB0.out) BB0.out.size (by omega)).mono ?_
      rintro e v1 ⟨A_s0, c_s0, rfl, hO, hB⟩
      have Os0_v1 := Lib.hid hO
      have Ls0 := Lib.hid hO.span
      clear hO
      have B_v1 := Lib.hid (drew2 BB0.out hB)
      have z_v1 : w.heap.size ≤ v1.heap.size := hB.size
      clear hB BB0
      go_wp2_with fail
      with_reducible refine (toRs_any w.heap.size a1 r1 cap1 v1 (I1.out.below B_v1.out) B_v1.out.size (by omega)).mono ?_
      rintro e v2 ⟨A_s1, c_s1, rfl, hO, hB⟩
      have Os0_v2 := Lib.hid (Os0_v1.out.below hB)
      clear Os0_v1
      have Os1_v2 := Lib.hid hO
      have Ls1 := Lib.hid hO.span
      clear hO
      have B_v2 := Lib.hid (drew2 B_v1.out hB)
      have z_v2 : v1.heap.size ≤ v2.heap.size := hB.size
      clear hB B_v1
      go_wp2_with fail
      with_reducible refine (sp_of A_s0 c_s0 A_s1 c_s1 v2 (Nat.le_refl _) Os0_v2.out.in_ Os1_v2.out.in_ (by omega) (by omega)  HP.out).mono ?_
      rintro e v3 ⟨A_W, c_W, rfl, hO, hB⟩
      have Os0_v3 := Lib.hid (Os0_v2.out.below hB)
      clear Os0_v2
      have Os1_v3 := Lib.hid (Os1_v2.out.below hB)
      clear Os1_v2
      have OW_v3 := Lib.hid hO
      have LW := Lib.hid hO.span
      clear hO
      have B_v3 := Lib.hid (drew2 B_v2.out hB)
      have z_v3 : v2.heap.size ≤ v3.heap.size := hB.size
      clear hB B_v2
      go_wp2_with fail
      clear Os0_v3 Ls0
      clear Os1_v3 Ls1
      with_reducible refine (toRs_any w.heap.size a0 r0 cap0 v3 (I0.out.below B_v3.out) B_v3.out.size (by omega)).mono ?_
      rintro e v4 ⟨A_x0, c_x0, rfl, hO, hB⟩
      have OW_v4 := Lib.hid (OW_v3.out.below hB)
      clear OW_v3
      have Ox0_v4 := Lib.hid hO
      have Lx0 := Lib.hid hO.span
      clear hO
      have B_v4 := Lib.hid (drew2 B_v3.out hB)
      have z_v4 : v3.heap.size ≤ v4.heap.size := hB.size
      clear hB B_v3
      go_wp2_with fail
      with_reducible refine (toRs_any w.heap.size a1 r1 cap1 v4 (I1.out.below B_v4.out) B_v4.out.size (by omega)).mono ?_
      rintro e v5 ⟨A_x1, c_x1, rfl, hO, hB⟩
      have OW_v5 := Lib.hid (OW_v4.out.below hB)
      clear OW_v4
      have Ox0_v5 := Lib.hid (Ox0_v4.out.below hB)
      clear Ox0_v4
      have Ox1_v5 := Lib.hid hO
      have Lx1 := Lib.hid hO.span
      clear hO
      have B_v5 := Lib.hid (drew2 B_v4.out hB)
      have z_v5 : v4.heap.size ≤ v5.heap.size := hB.size
      clear hB B_v4
      go_wp2_with fail
      with_reducible refine (im_of A_x0 c_x0 A_x1 c_x1 v5 (Nat.le_refl _) Ox0_v5.out.in_ Ox1_v5.out.in_ (by omega) (by omega) Ox0_v5.out.cap Ox1_v5.out.cap HP.out).mono ?_
      rintro e v6 ⟨A_G, c_G, rfl, hO, hB⟩
      have OW_v6 := Lib.hid (OW_v5.out.below hB)
      clear OW_v5
      have Ox0_v6 := Lib.hid (Ox0_v5.out.below hB)
      clear Ox0_v5
      have Ox1_v6 := Lib.hid (Ox1_v5.out.below hB)
      clear Ox1_v5
      have OG_v6 := Lib.hid hO
      have LG := Lib.hid hO.span
      clear hO
      have B_v6 := Lib.hid (drew2 B_v5.out hB)
      have z_v6 : v5.heap.size ≤ v6.heap.size := hB.size
      clear hB B_v5
      go_wp2_with fail
      with_reducible refine (eq_same v6.heap.size v6.heap.size A_G A_W qs c_G c_W v6 OG_v6.out.in_ OW_v6.out.in_ (Nat.le_refl _) (Nat.le_refl _) (by omega)).mono ?_
      rintro e v7 ⟨rfl, hB⟩
      have OW_v7 := Lib.hid (OW_v6.out.below hB)
      clear OW_v6
      have Ox0_v7 := Lib.hid (Ox0_v6.out.below hB)
      clear Ox0_v6
      have Ox1_v7 := Lib.hid (Ox1_v6.out.below hB)
      clear Ox1_v6
      have OG_v7 := Lib.hid (OG_v6.out.below hB)
      clear OG_v6
      have B_v7 := Lib.hid (drew2 B_v6.out hB)
      have z_v7 : v6.heap.size ≤ v7.heap.size := hB.size
      clear hB B_v6
      go_wp2_with fail
      with_reducible refine (toRs_any w.heap.size a0 r0 cap0 v7 (I0.out.below B_v7.out) B_v7.out.size (by omega)).mono ?_
      rintro e v8 ⟨A_t0, c_t0, rfl, hO, hB⟩
      have OW_v8 := Lib.hid (OW_v7.out.below hB)
      clear OW_v7
      have Ox0_v8 := Lib.hid (Ox0_v7.out.below hB)
      clear Ox0_v7
      have Ox1_v8 := Lib.hid (Ox1_v7.out.below hB)
      clear Ox1_v7
      have OG_v8 := Lib.hid (OG_v7.out.below hB)
      clear OG_v7
      have Ot0_v8 := Lib.hid hO
      have Lt0 := Lib.hid hO.span
      clear hO
      have B_v8 := Lib.hid (drew2 B_v7.out hB)
      have z_v8 : v7.heap.size ≤ v8.heap.size := hB.size
      clear hB B_v7
      go_wp2_with fail
      with_reducible refine (eq_same v8.heap.size v8.heap.size A_x0 A_t0 r0 c_x0 c_t0 v8 Ox0_v8.out.in_ Ot0_v8.out.in_ (Nat.le_refl _) (Nat.le_refl _) (by omega)).mono ?_
      rintro e v9 ⟨rfl, hB⟩
      have OW_v9 := Lib.hid (OW_v8.out.below hB)
      clear OW_v8
      have Ox0_v9 := Lib.hid (Ox0_v8.out.below hB)
      clear Ox0_v8
      have Ox1_v9 := Lib.hid (Ox1_v8.out.below hB)
      clear Ox1_v8
      have OG_v9 := Lib.hid (OG_v8.out.below hB)
      clear OG_v8
      have Ot0_v9 := Lib.hid (Ot0_v8.out.below hB)
      clear Ot0_v8
      have B_v9 := Lib.hid (drew2 B_v8.out hB)
      have z_v9 : v8.heap.size ≤ v9.heap.size := hB.size
      clear hB B_v8
      go_wp2_with fail
      clear Ot0_v9 Lt0
      with_reducible refine (toRs_any w.heap.size a1 r1 cap1 v9 (I1.out.below B_v9.out) B_v9.out.size (by omega)).mono ?_
      rintro e v10 ⟨A_t1, c_t1, rfl, hO, hB⟩
      have OW_v10 := Lib.hid (OW_v9.out.below hB)
      clear OW_v9
      have Ox0_v10 := Lib.hid (Ox0_v9.out.below hB)
      clear Ox0_v9
      have Ox1_v10 := Lib.hid (Ox1_v9.out.below hB)
      clear Ox1_v9
      have OG_v10 := Lib.hid (OG_v9.out.below hB)
      clear OG_v9
      have Ot1_v10 := Lib.hid hO
      have Lt1 := Lib.hid hO.span
      clear hO
      have B_v10 := Lib.hid (drew2 B_v9.out hB)
      have z_v10 : v9.heap.size ≤ v10.heap.size := hB.size
      clear hB B_v9
      go_wp2_with fail
      with_reducible refine (eq_same v10.heap.size v10.heap.size A_x1 A_t1 r1 c_x1 c_t1 v10 Ox1_v10.out.in_ Ot1_v10.out.in_ (Nat.le_refl _) (Nat.le_refl _) (by omega)).mono ?_
      rintro e v11 ⟨rfl, hB⟩
      have OW_v11 := Lib.hid (OW_v10.out.below hB)
      clear OW_v10
      have Ox0_v11 := Lib.hid (Ox0_v10.out.below hB)
      clear Ox0_v10
      have Ox1_v11 := Lib.hid (Ox1_v10.out.below hB)
      clear Ox1_v10
      have OG_v11 := Lib.hid (OG_v10.out.below hB)
      clear OG_v10
      have Ot1_v11 := Lib.hid (Ot1_v10.out.below hB)
      clear Ot1_v10
      have B_v11 := Lib.hid (drew2 B_v10.out hB)
      have z_v11 : v10.heap.size ≤ v11.heap.size := hB.size
      clear hB B_v10
      go_wp2_with fail
      clear Ot1_v11 Lt1
      with_reducible refine (rmark_any v3.heap.size A_x0 r0 c_x0 1 v11 Ox0_v11.out (by omega) (by omega) (by omega)).mono ?_
      rintro e v12 ⟨rfl, hO, hB, hG⟩
      have OW_v12 := Lib.hid (OW_v11.out.apart hG (fun j k hj hk => by have := LW.out j hj; have := Lx0.out k hk; omega))
      clear OW_v11
      have Ox1_v12 := Lib.hid (Ox1_v11.out.apart hG (fun j k hj hk => by have := Lx1.out j hj; have := Lx0.out k hk; omega))
      clear Ox1_v11
      have OG_v12 := Lib.hid (OG_v11.out.apart hG (fun j k hj hk => by have := LG.out j hj; have := Lx0.out k hk; omega))
      clear OG_v11
      clear Ox0_v11
      have Ox0_v12 := Lib.hid hO
      have B_v12 := Lib.hid (B_v11.out.trans (hB.mono (by omega)))
      have z_v12 : v11.heap.size ≤ v12.heap.size := hG.size
      clear hO hB hG B_v11
      go_wp2_with fail
      with_reducible refine (rmark_any v4.heap.size A_x1 r1 c_x1 (1 + 2 * (r0.length : Int)) v12 Ox1_v12.out (by omega) (by omega) (by omega)).mono ?_
      rintro e v13 ⟨rfl, hO, hB, hG⟩
      have OW_v13 := Lib.hid (OW_v12.out.apart hG (fun j k hj hk => by have := LW.out j hj; have := Lx1.out k hk; omega))
      clear OW_v12
      have Ox0_v13 := Lib.hid (Ox0_v12.out.apart hG (fun j k hj hk => by have := Lx0.out j hj; have := Lx1.out k hk; omega))
      clear Ox0_v12
      have OG_v13 := Lib.hid (OG_v12.out.apart hG (fun j k hj hk => by have := LG.out j hj; have := Lx1.out k hk; omega))
      clear OG_v12
      clear Ox1_v12
      have Ox1_v13 := Lib.hid hO
      have B_v13 := Lib.hid (B_v12.out.trans (hB.mono (by omega)))
      have z_v13 : v12.heap.size ≤ v13.heap.size := hG.size
      clear hO hB hG B_v12
      go_wp2_with fail
      clear Ox0_v13 Lx0
      clear Ox1_v13 Lx1
      with_reducible refine (eq_same v13.heap.size v13.heap.size A_G A_W qs c_G c_W v13 OG_v13.out.in_ OW_v13.out.in_ (Nat.le_refl _) (Nat.le_refl _) (by omega)).mono ?_
      rintro e v14 ⟨rfl, hB⟩
      have OW_v14 := Lib.hid (OW_v13.out.below hB)
      clear OW_v13
      have OG_v14 := Lib.hid (OG_v13.out.below hB)
      clear OG_v13
      have B_v14 := Lib.hid (drew2 B_v13.out hB)
      have z_v14 : v13.heap.size ≤ v14.heap.size := hB.size
      clear hB B_v13
      go_wp2_with fail
      with_reducible refine (rmark_any v5.heap.size A_G qs c_G 1 v14 OG_v14.out (by omega) (by omega) (by omega)).mono ?_
      rintro e v15 ⟨rfl, hO, hB, hG⟩
      have OW_v15 := Lib.hid (OW_v14.out.apart hG (fun j k hj hk => by have := LW.out j hj; have := LG.out k hk; omega))
      clear OW_v14
      clear OG_v14
      have OG_v15 := Lib.hid hO
      have B_v15 := Lib.hid (B_v14.out.trans (hB.mono (by omega)))
      have z_v15 : v14.heap.size ≤ v15.heap.size := hG.size
      clear hO hB hG B_v14
      go_wp2_with fail
      with_reducible refine (rheld_any v15.heap.size qs.length A_G c_G 1 v15 OG_v15.out.in_ (by omega) (by omega) (by omega)).mono ?_
      rintro e u_221 ⟨rfl, rfl⟩
      go_wp2_with fail
      with_reducible refine (toRs_any w.heap.size a0 r0 cap0 v15 (I0.out.below B_v15.out) B_v15.out.size (by omega)).mono ?_
      rintro e v16 ⟨A_y0, c_y0, rfl, hO, hB⟩
      have OW_v16 := Lib.hid (OW_v15.out.below hB)
      clear OW_v15
      have OG_v16 := Lib.hid (OG_v15.out.below hB)
      clear OG_v15
      have Oy0_v16 := Lib.hid hO
      have Ly0 := Lib.hid hO.span
      clear hO
      have B_v16 := Lib.hid (drew2 B_v15.out hB)
      have z_v16 : v15.heap.size ≤ v16.heap.size := hB.size
      clear hB B_v15
      go_wp2_with fail
      with_reducible refine (toRs_any w.heap.size a1 r1 cap1 v16 (I1.out.below B_v16.out) B_v16.out.size (by omega)).mono ?_
      rintro e v17 ⟨A_y1, c_y1, rfl, hO, hB⟩
      have OW_v17 := Lib.hid (OW_v16.out.below hB)
      clear OW_v16
      have OG_v17 := Lib.hid (OG_v16.out.below hB)
      clear OG_v16
      have Oy0_v17 := Lib.hid (Oy0_v16.out.below hB)
      clear Oy0_v16
      have Oy1_v17 := Lib.hid hO
      have Ly1 := Lib.hid hO.span
      clear hO
      have B_v17 := Lib.hid (drew2 B_v16.out hB)
      have z_v17 : v16.heap.size ≤ v17.heap.size := hB.size
      clear hB B_v16
      go_wp2_with fail
      with_reducible refine (im_of A_y0 c_y0 A_y1 c_y1 v17 (Nat.le_refl _) Oy0_v17.out.in_ Oy1_v17.out.in_ (by omega) (by omega) Oy0_v17.out.cap Oy1_v17.out.cap HP.out).mono ?_
      rintro e v18 ⟨A_H, c_H, rfl, hO, hB⟩
      have OW_v18 := Lib.hid (OW_v17.out.below hB)
      clear OW_v17
      have OG_v18 := Lib.hid (OG_v17.out.below hB)
      clear OG_v17
      have Oy0_v18 := Lib.hid (Oy0_v17.out.below hB)
      clear Oy0_v17
      have Oy1_v18 := Lib.hid (Oy1_v17.out.below hB)
      clear Oy1_v17
      have OH_v18 := Lib.hid hO
      have LH := Lib.hid hO.span
      clear hO
      have B_v18 := Lib.hid (drew2 B_v17.out hB)
      have z_v18 : v17.heap.size ≤ v18.heap.size := hB.size
      clear hB B_v17
      go_wp2_with fail
      clear Oy0_v18 Ly0
      clear Oy1_v18 Ly1
      with_reducible refine (eq_same v18.heap.size v18.heap.size A_H A_W qs c_H c_W v18 OH_v18.out.in_ OW_v18.out.in_ (Nat.le_refl _) (Nat.le_refl _) (by omega)).mono ?_
      rintro e v19 ⟨rfl, hB⟩
      have OW_v19 := Lib.hid (OW_v18.out.below hB)
      clear OW_v18
      have OG_v19 := Lib.hid (OG_v18.out.below hB)
      clear OG_v18
      have OH_v19 := Lib.hid (OH_v18.out.below hB)
      clear OH_v18
      have B_v19 := Lib.hid (drew2 B_v18.out hB)
      have z_v19 : v18.heap.size ≤ v19.heap.size := hB.size
      clear hB B_v18
      go_wp2_with fail
      with_reducible refine (rheld_any v19.heap.size qs.length A_G c_G 1 v19 OG_v19.out.in_ (by omega) (by omega) (by omega)).mono ?_
      rintro e u_283 ⟨rfl, rfl⟩
      go_wp2
      go_ret
      exact ⟨rfl, B_v19.out⟩
    · go_enter Try.func15, Try.ntmps15
      go_wp2_with fail
      refine (size_fits _ _ _ _ _ (by omega) (by omega)).mono ?_
      rintro e u ⟨rfl, rfl⟩
      go_wp2_with fail
      refine (size_over _ _ _ _ _ (by omega) (by omega) (by omega) (by omega)).mono ?_
      rintro e u ⟨rfl, rfl⟩
      go_wp2
      go_ret
      exact ⟨rfl, Below.refl _ _⟩
  · go_enter Try.func15, Try.ntmps15
    go_wp2_with fail
    refine (size_over _ _ _ _ _ (by omega) (by omega) (by omega) (by omega)).mono ?_
    rintro e u ⟨rfl, rfl⟩
    go_wp2
    go_ret
    exact ⟨rfl, Below.refl _ _⟩
set_option maxRecDepth 100000 in
theorem lifted (os : Os) (started : os.Started) (H : Type) (enc : TypeId × Value → H) :
    ReturnsInHanded {} Try.checked os 15 .any (Rows.fnExactRangesUnionSpec.pre6 enc Try.prog Try.f15 Rows.fnExactRangesUnionRow.domain false) (Rows.fnExactRangesUnionSpec.post enc Try.prog Try.f15 false true false false) := by
  refine returnsInHanded_of_change (C := Try.checked) own started (by kernel_rfl) Try.func15
    (ChangeSpec.witness6 (enc := enc) (C := Try.checked) false ⟨#[], #[.slice none 0 0, .slice none 0 0], []⟩ 8 (by kernel_rfl) (by kernel_rfl) (by kernel_rfl) (by kernel_rfl)) ?_
  intro W base args ds gs before hval0 hW hcnd _
  have hval : ∀ (j : Nat) t v, Try.f15.params[j]? = some t → args[j]? = some v → Value.okWide Try.prog W .any base t v := hval0
  have hW' := hW
  obtain ⟨p, q, hA0, hV, rfl, hfz, hnd⟩ := hW
  have hA : DataW.TrodAll enc Try.prog W 0 (fun _ => true) true Try.f15.params.toList args.toList ds p := hA0
  rw [Try.params15] at hA hval
  obtain ⟨v0, vs0, d0, ds0, p0, q0, hargs, rfl, rfl, h0, r_0⟩ := trodAll_cons hA
  obtain ⟨v1, vs1, d1, ds1, p1, q1, rfl, rfl, rfl, h1, r_1⟩ := trodAll_cons r_0
  obtain ⟨rfl, rfl, rfl⟩ := trodAll_nil r_1
  obtain rfl : args = #[v0, v1] := by cases args; simp_all
  obtain ⟨rfl, rfl⟩ := trodVars_none hV
  obtain ⟨a0, len0, cap0, rfl⟩ := okWide_slice Try.underlying22 (hval 0 22 v0 rfl rfl)
  have k0 := h0
  have lt0 : ∀ x ∈ p0, x.block < W.heap.size := by obtain ⟨m, hm⟩ := k0; exact DataW.trod_lt m _ _ _ hm
  obtain ⟨r0, w0⟩ : ∃ rs : List Rg, rs.length = len0 ∧ RsIn W W.heap.size a0 rs ∧ len0 ≤ 9223372036854775807 := by
    obtain ⟨fuel, hf⟩ := h0
    obtain ⟨hb, rs, h1, h2⟩ := open_rs hf
    exact ⟨rs, h1, h2, hb⟩
  obtain ⟨a1, len1, cap1, rfl⟩ := okWide_slice Try.underlying22 (hval 1 22 v1 rfl rfl)
  have k1 := h1
  have lt1 : ∀ x ∈ p1, x.block < W.heap.size := by obtain ⟨m, hm⟩ := k1; exact DataW.trod_lt m _ _ _ hm
  obtain ⟨r1, w1⟩ : ∃ rs : List Rg, rs.length = len1 ∧ RsIn W W.heap.size a1 rs ∧ len1 ≤ 9223372036854775807 := by
    obtain ⟨fuel, hf⟩ := h1
    obtain ⟨hb, rs, h1, h2⟩ := open_rs hf
    exact ⟨rs, h1, h2, hb⟩
  clear hA0 hval0
  refine (walk a0 len0 cap0 r0 a1 len1 cap1 r1 W w0 w1).mono fun e W' ⟨he, bel⟩ => ?_
  subst he
  exact ⟨_, rfl, _, _, _, [], _, [], hW', trodAll_mk1 (shut_bool Try.underlying4 _), (trodAll_cons_mk (Below.trod laidOut (by kernel_rfl) (of_decide_eq_true (by kernel_rfl)) k0 bel lt0) (trodAll_cons_mk (Below.trod laidOut (by kernel_rfl) (of_decide_eq_true (by kernel_rfl)) k1 bel lt1) trodAll_mk0)), rfl, bel.frame _, fun h => by cases h⟩
theorem closed : joinedFacts Try.prog 15 Try.f15 Rows.fnExactRangesUnionSpec Rows.fnExactRangesUnionRow = true := by
  unfold joinedFacts
  rw [mayEnter_ok, lifts_ok, make_ok]
  kernel_rfl
theorem over : Rows.fnExactRangesUnionRow.holds Try.pinned (OpenSpec.ofChange Rows.fnExactRangesUnionSpec) :=
  OpenClaim.holds_of_wide 15 Try.f15 rfl rfl rfl rfl rfl rfl rfl ⟨rfl, rfl, rfl, rfl, rfl⟩ rfl rfl rfl rfl rfl (by kernel_rfl) Try.func15 closed
    (of_decide_eq_true (by kernel_rfl)) (by unfold Func.isWrapper; first | (rw [if_pos (by decide +kernel)]; kernel_rfl) | (rw [if_neg (by decide +kernel)]; exact ⟨rfl, rfl⟩))
    (fun os started H enc _ => lifted os started H enc)
theorem proved : Rows.FnExactRangesUnionSaid := over
#print axioms proved
end Go.Proofs.Ytclfkkapahdgaaa.fnExactRangesUnion
