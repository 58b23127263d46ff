/- Proved: the law FnRangesPart returns true for every input and leaves its arguments as they were: A set stays valid without any one range. (P22) No condition. -/
import Derived.Test.YtclfkkapahdgaaaRows
import Derived.WalkKit
import Derived.ProofKit
import Derived.OpenShut
import Derived.ShutString
import Derived.ChangeOld
import Derived.Below
import Derived.Test.YtclfkkapahdgaaaHead
import Derived.Test.YtclfkkapahdgaaaRSample
namespace Go.Proofs.Ytclfkkapahdgaaa.fnRangesPart
open Go.ChangeShapes Go.WideShapes Go.ChangeAt Go.RowKit
open Go.ChangeMaps (open_string shut_string)
set_option linter.unusedVariables false

theorem own : ownKnob Try.prog.godebug = none := by kernel_rfl
theorem laidOut : laidOutB Try.prog = true := by kernel_rfl

theorem walk (a0 : Option Addr) (len0 cap0 : Nat) (z0 : List Int) (a1 : Option Addr) (len1 cap1 : Nat) (z1 : List Int) (w : World) (w0 : IsRow .u8 w a0 len0 cap0 z0) (w1 : IsRow .u8 w a1 len1 cap1 z1) :
    Calls Try.prog 5 #[.slice a0 len0 cap0, .slice a1 len1 cap1] w fun e w' => e = .returned (.bool true) ∧ Below w.heap.size w w' := by
  have hc := codeArg_of w0
  have hc' := codeArg_of w1
  have hl := hc.1
  have hm := hc.2.1
  have hl' := hc'.1
  have hm' := hc'.2.1
  have HC := Lib.hid hc
  have HC' := Lib.hid hc'
  clear w0 w1 hc hc'
  by_cases h1 : len0 ≤ 1048576
  · by_cases h2 : len1 ≤ 1048576
    · have BB0 := Lib.hid (Below.refl w.heap.size w)
      go_enter Try.func5, Try.ntmps5
      go_wp2_with fail
      refine (drawValid_any a0 len0 cap0 w HC.out).mono ?_
      rintro e v1 ⟨A_L, c_L, l, rfl, hl, hO, hB⟩
      have OL_v1 := Lib.hid hO
      clear hO
      have B_v1 := Lib.hid (drew2 BB0.out hB)
      clear hB BB0
      obtain ⟨vb, HV⟩ : ∃ b, Hid (rvalid l = b) := ⟨_, rfl⟩
      go_wp2_with fail
      with_reducible refine (ivalid_is OL_v1.out (by omega) HV.out).mono ?_
      rintro e v2 ⟨rfl, hB⟩
      have OL_v2 := Lib.hid (OL_v1.out.below hB)
      clear OL_v1
      have B_v2 := Lib.hid (drew2 B_v1.out hB)
      clear hB B_v1
      go_wp2_with fail
      with_reducible refine (svalid_is OL_v2.out (by omega) HV.out).mono ?_
      rintro e v3 ⟨rfl, hB⟩
      have OL_v3 := Lib.hid (OL_v2.out.below hB)
      clear OL_v2
      have B_v3 := Lib.hid (drew2 B_v2.out hB)
      clear hB B_v2
      cases vb with
      | false =>
        go_wp2
        go_ret
        exact ⟨ret_bool (by first | rfl | (simp; done)), B_v3.out⟩
      | true =>
        by_cases hl0 : 0 < l.length
        · have hz : ((l.length : Int) == 0) = false := by rw [beq_eq_false_iff_ne]; omega
          obtain ⟨k, hk⟩ : ∃ k, len1 % l.length = k := ⟨_, rfl⟩
          have hkl : k < l.length := by rw [← hk]; exact Nat.mod_lt _ hl0
          have t0 : ((len1 : Int)).tmod (l.length : Int) = (k : Int) := by rw [← hk]; rfl
          have t1 : ((len1 : Int)) % (l.length : Int) = (k : Int) := by rw [← hk]; rfl
          have s0 : IntKind.i64.wrap ((k : Int) + 1) = (k : Int) + 1 := IntWalk.i64_in ((k : Int) + 1) (by omega)
          have HK := Lib.hid hk
          clear hk
          obtain ⟨da, hda, hdal, ra, HDA⟩ := part_to OL_v3.out.in_ c_L k (by omega) OL_v3.out.cap
          obtain ⟨A2, db, hdb, hdbl, rb, HDB⟩ := part_of OL_v3.out.in_ c_L (k + 1) (by omega) OL_v3.out.cap
          obtain ⟨dc, hdc, hdcl, rc, HDC⟩ := part_to OL_v3.out.in_ c_L (k + 1) (by omega) OL_v3.out.cap
          obtain ⟨A4, dd, hdd, hddl, rd, HDD⟩ := part_of OL_v3.out.in_ c_L k (by omega) OL_v3.out.cap
          rw [show ((k + 1 : Nat) : Int) = (k : Int) + 1 from rfl] at rb rc
          have OE := fun W => Lib.hid (OwnRs.empty W v3.heap.size)
          have LE := Lib.hid (Nat.le_refl v3.heap.size)
          go_wp2_with fail
          clear OE LE
          go_region_held3 (fun w' => v3.heap.size ≤ w'.heap.size) (first | go_keep | (exact KB2.size) | (exact KB.size)) ((first
            | (refine step_append_rq (by rfl) (.tmp 45) (.tmp 48) (by rfl) v3.heap.size _ 0 [] (by rfl) (OwnRs.empty _ v3.heap.size (Below.refl v3.heap.size v3).drew.size) v3.heap.size A_L c_L da (by rfl) (HDA.out.below ((Below.refl v3.heap.size v3).drew.alloc (Below.refl v3.heap.size v3).drew.size _)) (by simp only [List.length_nil]; omega) ((Below.refl v3.heap.size v3).drew.alloc (Below.refl v3.heap.size v3).drew.size _).size ?_; intro A_a1 c_a1 w_a1 q_a1 hqa1 hla1 hAa1; have KB := ((Below.refl v3.heap.size v3).drew.alloc (Below.refl v3.heap.size v3).drew.size _).trans hAa1.2.1)
            | (refine step_append_rq (by rfl) (.tmp 49) (.tmp 53) (by rfl) v3.heap.size A_a1 c_a1 q_a1 (by rfl) (by first | exact hAa1.1 | exact hAa1.1.below (Below.refl _ _).drew) v3.heap.size A2 (c_L - (k + 1)) db (by rfl) (by first | exact HDB.out.below KB | exact HDB.out.below KB.drew) (by rw [hla1.out, List.length_nil]; omega) (by first | exact KB.size | exact KB.drew.size) ?_; intro A_b1 c_b1 w_b1 q_b1 hqb1 hlb1 hAb1; have KB2 := (by first | exact KB.trans hAb1.2.1 | exact KB.drew.trans hAb1.2.1))))
          have Bb1 := Lib.hid (drew2 B_v3.out (KB2.mono (Nat.le_refl _)))
          have Ob1 := Lib.hid hAb1.1
          have HDC1 := Lib.hid ((HDC.out.below KB2).mono KB2.size)
          have HDD1 := Lib.hid ((HDD.out.below KB2).mono KB2.size)
          have Q1 := Lib.hid (show q_b1 = l.take k ++ l.drop (k + 1) by rw [hqb1.out, hqa1.out, hda.out, hdb.out]; rfl)
          have L1 : q_b1.length ≤ 100 := by rw [hlb1.out, hla1.out, List.length_nil]; omega
          clear KB KB2 hAa1 hAb1 HDC HDD HDA HDB OL_v3
          go_wp2_with fail
          go_region_held3 (fun w' => w_b1.heap.size ≤ w'.heap.size) (first | go_keep | (exact KB2.size) | (exact KB.size)) ((first
            | (refine step_append_rq (by rfl) (.tmp 55) (.tmp 59) (by rfl) w_b1.heap.size _ 0 [] (by rfl) (OwnRs.empty _ w_b1.heap.size (Below.refl w_b1.heap.size w_b1).drew.size) w_b1.heap.size A_L c_L dc (by rfl) (HDC1.out.below ((Below.refl w_b1.heap.size w_b1).drew.alloc (Below.refl w_b1.heap.size w_b1).drew.size _)) (by simp only [List.length_nil]; omega) ((Below.refl w_b1.heap.size w_b1).drew.alloc (Below.refl w_b1.heap.size w_b1).drew.size _).size ?_; intro A_a2 c_a2 w_a2 q_a2 hqa2 hla2 hAa2; have KB := ((Below.refl w_b1.heap.size w_b1).drew.alloc (Below.refl w_b1.heap.size w_b1).drew.size _).trans hAa2.2.1)
            | (refine step_append_rq (by rfl) (.tmp 60) (.tmp 63) (by rfl) w_b1.heap.size A_a2 c_a2 q_a2 (by rfl) (by first | exact hAa2.1 | exact hAa2.1.below (Below.refl _ _).drew) w_b1.heap.size A4 (c_L - k) dd (by rfl) (by first | exact HDD1.out.below KB | exact HDD1.out.below KB.drew) (by rw [hla2.out, List.length_nil]; omega) (by first | exact KB.size | exact KB.drew.size) ?_; intro A_b2 c_b2 w_b2 q_b2 hqb2 hlb2 hAb2; have KB2 := (by first | exact KB.trans hAb2.2.1 | exact KB.drew.trans hAb2.2.1))))
          have Ob2 := Lib.hid hAb2.1
          have Ob1' := Lib.hid (Ob1.out.below KB2)
          have Bb2 := Lib.hid (drew2 Bb1.out KB2)
          have Q2 := Lib.hid (show q_b2 = l.take (k + 1) ++ l.drop k by rw [hqb2.out, hqa2.out, hdc.out, hdd.out]; rfl)
          have L2 : q_b2.length ≤ 100 := by rw [hlb2.out, hla2.out, List.length_nil]; omega
          clear KB KB2 hAa2 hAb2 HDC1 HDD1
          go_wp2_with fail
          with_reducible refine (ivalid_is (b := true) Ob1'.out (by omega) (by rw [Q1.out]; exact part_valid HV.out k hkl)).mono ?_
          rintro e w8 ⟨rfl, hB⟩
          have Ob3 := Lib.hid (Ob2.out.below hB)
          have B8 := Lib.hid (drew2 Bb2.out hB)
          clear hB
          go_wp2_with fail
          with_reducible refine (ivalid_is (b := false) Ob3.out (by omega) (by rw [Q2.out]; exact part_twice HV.out k hkl)).mono ?_
          rintro e w9 ⟨rfl, hB⟩
          have B9 := Lib.hid (drew2 B8.out hB)
          clear hB
          go_wp2
          go_ret
          exact ⟨rfl, B9.out⟩
        · have hl1 : l.length = 0 := by omega
          have hl2 : ((l.length : Int) == 0) = true := by rw [hl1]; rfl
          clear hl1
          go_wp2
          go_ret
          exact ⟨ret_bool (by first | rfl | (simp; done)), B_v3.out⟩
    · go_enter Try.func5, Try.ntmps5
      go_wp2
      go_ret
      exact ⟨rfl, Below.refl _ _⟩
  · go_enter Try.func5, Try.ntmps5
    go_wp2
    go_ret
    exact ⟨rfl, Below.refl _ _⟩

set_option maxRecDepth 100000 in
theorem lifted (os : Os) (started : os.Started) (H : Type) (enc : TypeId × Value → H) :
    ReturnsInHanded {} Try.checked os 5 .any (Rows.fnRangesPartSpec.pre6 enc Try.prog Try.f5 Rows.fnRangesPartRow.domain false) (Rows.fnRangesPartSpec.post enc Try.prog Try.f5 false true false false) := by
  refine returnsInHanded_of_change (C := Try.checked) own started (by kernel_rfl) Try.func5
    (ChangeSpec.witness6 (enc := enc) (C := Try.checked) false ⟨#[], #[.slice none 0 0, .slice none 0 0], []⟩ 8 (by kernel_rfl) (by kernel_rfl) (by kernel_rfl) (by kernel_rfl)) ?_
  intro W base args ds gs before hval0 hW hcnd _
  have hval : ∀ (j : Nat) t v, Try.f5.params[j]? = some t → args[j]? = some v → Value.okWide Try.prog W .any base t v := hval0
  have hW' := hW
  obtain ⟨p, q, hA0, hV, rfl, hfz, hnd⟩ := hW
  have hA : DataW.TrodAll enc Try.prog W 0 (fun _ => true) true Try.f5.params.toList args.toList ds p := hA0
  rw [Try.params5] at hA hval
  obtain ⟨v0, vs0, d0, ds0, p0, q0, hargs, rfl, rfl, h0, r0⟩ := trodAll_cons hA
  obtain ⟨v1, vs1, d1, ds1, p1, q1, rfl, rfl, rfl, h1, r1⟩ := trodAll_cons r0
  obtain ⟨rfl, rfl, rfl⟩ := trodAll_nil r1
  obtain rfl : args = #[v0, v1] := by cases args; simp_all
  obtain ⟨rfl, rfl⟩ := trodVars_none hV
  obtain ⟨a0, len0, cap0, rfl⟩ := okWide_slice Try.underlying30 (hval 0 30 v0 rfl rfl)
  have k0 := h0
  have lt0 : ∀ x ∈ p0, x.block < W.heap.size := by obtain ⟨m, hm⟩ := k0; exact DataW.trod_lt m _ _ _ hm
  obtain ⟨z0, w0⟩ : ∃ zs, IsRow .u8 W a0 len0 cap0 zs := by
    obtain ⟨fuel, hf⟩ := h0
    rcases open_ints Try.underlying30 Try.underlying5 (by kernel_rfl) hf with ⟨hcs, _⟩ | ⟨x, l, c, zs, hcs, _, hl, hm, hz, _, hcell, hwz⟩
    · simp [Value.cells] at hcs
      obtain ⟨rfl, rfl, rfl⟩ := hcs
      exact ⟨[], .inl ⟨rfl, rfl, rfl, rfl⟩⟩
    · simp [Value.cells] at hcs
      obtain ⟨rfl, rfl, rfl⟩ := hcs
      exact ⟨zs, .inr ⟨_, rfl, hl, hm, by simpa using hz, hcell, hwz⟩⟩
  obtain ⟨a1, len1, cap1, rfl⟩ := okWide_slice Try.underlying30 (hval 1 30 v1 rfl rfl)
  have k1 := h1
  have lt1 : ∀ x ∈ p1, x.block < W.heap.size := by obtain ⟨m, hm⟩ := k1; exact DataW.trod_lt m _ _ _ hm
  obtain ⟨z1, w1⟩ : ∃ zs, IsRow .u8 W a1 len1 cap1 zs := by
    obtain ⟨fuel, hf⟩ := h1
    rcases open_ints Try.underlying30 Try.underlying5 (by kernel_rfl) hf with ⟨hcs, _⟩ | ⟨x, l, c, zs, hcs, _, hl, hm, hz, _, hcell, hwz⟩
    · simp [Value.cells] at hcs
      obtain ⟨rfl, rfl, rfl⟩ := hcs
      exact ⟨[], .inl ⟨rfl, rfl, rfl, rfl⟩⟩
    · simp [Value.cells] at hcs
      obtain ⟨rfl, rfl, rfl⟩ := hcs
      exact ⟨zs, .inr ⟨_, rfl, hl, hm, by simpa using hz, hcell, hwz⟩⟩
  clear hA0 hval0
  refine (walk a0 len0 cap0 z0 a1 len1 cap1 z1 W w0 w1).mono fun e W' ⟨he, bel⟩ => ?_
  subst he
  exact ⟨_, rfl, _, _, _, [], _, [], hW', trodAll_mk1 (shut_bool Try.underlying4 _), (trodAll_cons_mk (Below.trod laidOut (by kernel_rfl) (of_decide_eq_true (by kernel_rfl)) k0 bel lt0) (trodAll_cons_mk (Below.trod laidOut (by kernel_rfl) (of_decide_eq_true (by kernel_rfl)) k1 bel lt1) trodAll_mk0)), rfl, bel.frame _, fun h => by cases h⟩

theorem closed : joinedFacts Try.prog 5 Try.f5 Rows.fnRangesPartSpec Rows.fnRangesPartRow = true := by
  unfold joinedFacts
  rw [mayEnter_ok, lifts_ok, make_ok]
  kernel_rfl

theorem over : Rows.fnRangesPartRow.holds Try.pinned (OpenSpec.ofChange Rows.fnRangesPartSpec) :=
  OpenClaim.holds_of_wide 5 Try.f5 rfl rfl rfl rfl rfl rfl rfl ⟨rfl, rfl, rfl, rfl, rfl⟩ rfl rfl rfl rfl rfl (by kernel_rfl) Try.func5 closed
    (of_decide_eq_true (by kernel_rfl)) (by unfold Func.isWrapper; first | (rw [if_pos (by decide +kernel)]; kernel_rfl) | (rw [if_neg (by decide +kernel)]; exact ⟨rfl, rfl⟩))
    (fun os started H enc _ => lifted os started H enc)

/-- ████ THE STATEMENT ████ -/
theorem proved : Rows.FnRangesPartSaid := over
#print axioms proved
end Go.Proofs.Ytclfkkapahdgaaa.fnRangesPart
