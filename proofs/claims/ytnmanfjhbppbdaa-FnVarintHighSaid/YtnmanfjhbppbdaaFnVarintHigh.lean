/- Proved: the law FnVarintHigh returns true for every input and leaves its arguments as they were: No encoding starts with a byte from 192 on. (P10) No condition. -/
import Derived.Test.YtnmanfjhbppbdaaRows
import Derived.WalkKit
import Derived.ProofKit
import Derived.OpenShut
import Derived.ShutString
import Derived.ChangeOld
import Derived.Below
import Derived.Test.YtnmanfjhbppbdaaHead
import Derived.Test.YtnmanfjhbppbdaaVLaw
import Derived.Test.YtnmanfjhbppbdaaVSplit
namespace Go.Proofs.Ytnmanfjhbppbdaa.fnVarintHigh
open Go.ChangeShapes Go.WideShapes Go.ChangeAt Go.RowKit
open Go.ChangeMaps (open_string shut_string)
set_option linter.unusedVariables false

theorem own : ownKnob Try.prog.godebug = none := by kernel_rfl
theorem laidOut : laidOutB Try.prog = true := by kernel_rfl

theorem one_append (a : UInt8) (t : ByteArray) : ((⟨#[a]⟩ : ByteArray) ++ t).data.toList = a :: t.data.toList := by simp
theorem high_fine (q : Int) (h0 : 0 ≤ q) (h : q < 64) (r : List UInt8) : fine (UInt8.ofNat (192 + q).toNat :: r) = false := by
  refine dec_high _ ?_
  rw [bt_cons, b8_of (192 + q) (by omega) (by omega), b8_toNat]; omega
theorem low_dec (q : Int) (h0 : 0 ≤ q) (h : q < 64) (r : List UInt8) : dnum (UInt8.ofNat q.toNat :: r) = q ∧ (dsize (UInt8.ofNat q.toNat :: r) : Int) = 1 ∧ fine (UInt8.ofNat q.toNat :: r) = true := by
  have hb : bt (UInt8.ofNat q.toNat :: r) 0 = q := by rw [bt_cons, b8_of q (by omega) (by omega), b8_toNat]; omega
  obtain ⟨h1, h2, h3⟩ := dec_some (UInt8.ofNat q.toNat :: r) 1 (by simp) (by omega) (by rw [hb, if_pos h]) (by simp)
  exact ⟨by rw [h3, pre_one, hb]; omega, by rw [h2]; rfl, h1⟩
theorem split_bad (s : ByteArray) (w : World) (hm : s.size ≤ 9223372036854775807) (hn : s.data.toList ≠ []) (hf : fine s.data.toList = false) :
    Calls Try.prog 24 #[.string s] w fun e w' => ∃ A c, e = .returned (.tuple #[.slice A 0 c, .bool false]) ∧ Below w.heap.size w w' :=
  (isplit_any s w hm).mono fun _ _ ⟨A, c, he, _, hb⟩ => ⟨A, c, by rw [he, vsplit_bad _ _ hn hf]; rfl, hb⟩
theorem min_bad (s : ByteArray) (w : World) (hm : s.size ≤ 9223372036854775807) (hf : fine s.data.toList = false) :
    Calls Try.prog 25 #[.string s] w fun e w' => e = .returned (.bool false) ∧ Below w.heap.size w w' :=
  (imin_any s w hm).mono fun _ _ ⟨he, hb⟩ => ⟨by rw [he, ← minimal_no s (by rw [hf]; decide)], hb⟩

theorem walk (a0 : Option Addr) (len0 cap0 : Nat) (z0 : List Int) (a1 : Option Addr) (len1 cap1 : Nat) (z1 : List Int) (w : World) (w0 : IsRow .u8 w a0 len0 cap0 z0) (w1 : IsRow .u8 w a1 len1 cap1 z1) :
    Calls Try.prog 6 #[.slice a0 len0 cap0, .slice a1 len1 cap1] w fun e w' => e = .returned (.bool true) ∧ Below w.heap.size w w' := by
  have hc := codeArg_of w0
  have hc' := codeArg_of w1
  have hl := hc.1
  have hm := hc.2.1
  have hl' := hc'.1
  have hm' := hc'.2.1
  have HC := Lib.hid hc
  have HC' := Lib.hid hc'
  clear w0 w1 hc hc'
  by_cases h1 : len0 ≤ 1048576
  · by_cases h2 : len1 ≤ 1048576
    · obtain ⟨t, ht, hconv⟩ := conv_arg HC'.out
      have kc := conv1
      obtain ⟨q, HQ⟩ : ∃ q : Int, (len0 : Int) % 64 = q := ⟨_, rfl⟩
      have hq0 : 0 ≤ q := by omega
      have hq1 : q < 64 := by omega
      have hq3 : 192 + q - 192 = q := by omega
      have hconv' := Lib.hid hconv
      have cv : ∀ o, (convert 28 9 (.slice a1 len1 cap1)).run Try.prog (w.alloc o) = .ok (.string t) (w.alloc o) := fun o => hconv _ ((Below.refl _ _).alloc (Nat.le_refl _) _)
      have cat : ∀ (a : UInt8) W, (Op.stringOp .add ⟨#[a]⟩ t).run Try.prog W = .ok (.string (⟨#[a]⟩ ++ t)) W := fun a W => run_string_add_sum W _ _ (by rw [size_one]; omega)
      clear hconv
      have hs : ∀ a : UInt8, (⟨#[a]⟩ ++ t : ByteArray).size ≤ 9223372036854775807 := by
        intro a
        rw [ByteArray.size_append, size_one]; omega
      have hs' := Lib.hid hs
      clear hs
      have hf := Lib.hid (high_fine q hq0 hq1 t.data.toList)
      have hlo := Lib.hid (low_dec q hq0 hq1 t.data.toList)
      go_enter Try.func6, Try.ntmps6
      go_wp2_with fail
      have hdec := idec_of (⟨#[UInt8.ofNat (192 + q).toNat]⟩ ++ t) (w.alloc (.cells #[.int .u8 (192 + q)] 5)) (hs'.out _) 0 0 false (by rw [one_append]; exact (dec_none _ hf.out).2) (by rw [one_append, (dec_none _ hf.out).1]; rfl) (by rw [one_append]; exact hf.out)
      with_reducible refine hdec.mono ?_
      clear hdec
      rintro e w1 ⟨rfl, rfl⟩
      go_wp2_with fail
      have hsp := split_bad (⟨#[UInt8.ofNat (192 + q).toNat]⟩ ++ t) (w.alloc (.cells #[.int .u8 (192 + q)] 5)) (hs'.out _) (by rw [one_append]; simp) (by rw [one_append]; exact hf.out)
      with_reducible refine hsp.mono ?_
      clear hsp
      rintro e w2 ⟨A, c, rfl, hB2⟩
      have hB2' : Below w.heap.size w w2 := drew2 ((Below.refl _ _).alloc (Nat.le_refl _) _) hB2
      have cv2 : ∀ o, (convert 28 9 (.slice a1 len1 cap1)).run Try.prog (w2.alloc o) = .ok (.string t) (w2.alloc o) := fun o => hconv'.out _ (hB2'.alloc hB2'.size _)
      have HB := Lib.hid hB2'
      clear hB2 hB2' cv
      go_wp2_with fail
      have hdec := idec_of (⟨#[UInt8.ofNat q.toNat]⟩ ++ t) (w2.alloc (.cells #[.int .u8 q] 5)) (hs'.out _) q 1 true (by rw [one_append]; exact hlo.out.1) (by rw [one_append]; exact hlo.out.2.1) (by rw [one_append]; exact hlo.out.2.2)
      with_reducible refine hdec.mono ?_
      clear hdec
      rintro e w3 ⟨rfl, rfl⟩
      go_wp2_with fail
      have hmin := min_bad (⟨#[UInt8.ofNat (192 + q).toNat]⟩ ++ t) (w2.alloc (.cells #[.int .u8 q] 5)) (hs'.out _) (by rw [one_append]; exact hf.out)
      with_reducible refine hmin.mono ?_
      clear hmin
      rintro e w4 ⟨rfl, hB4⟩
      have HB4 := Lib.hid (drew2 (HB.out.alloc HB.out.size _) hB4)
      clear hB4
      go_wp2
      go_ret
      exact ⟨ret_bool (by first | rfl | (simp; done) | (simp; omega)), HB4.out⟩
    · go_enter Try.func6, Try.ntmps6
      go_wp2
      go_ret
      exact ⟨rfl, Below.refl _ _⟩
  · go_enter Try.func6, Try.ntmps6
    go_wp2
    go_ret
    exact ⟨rfl, Below.refl _ _⟩

set_option maxRecDepth 100000 in
theorem lifted (os : Os) (started : os.Started) (H : Type) (enc : TypeId × Value → H) :
    ReturnsInHanded {} Try.checked os 6 .any (Rows.fnVarintHighSpec.pre6 enc Try.prog Try.f6 Rows.fnVarintHighRow.domain false) (Rows.fnVarintHighSpec.post enc Try.prog Try.f6 false true false false) := by
  refine returnsInHanded_of_change (C := Try.checked) own started (by kernel_rfl) Try.func6
    (ChangeSpec.witness6 (enc := enc) (C := Try.checked) false ⟨#[], #[.slice none 0 0, .slice none 0 0], []⟩ 8 (by kernel_rfl) (by kernel_rfl) (by kernel_rfl) (by kernel_rfl)) ?_
  intro W base args ds gs before hval0 hW hcnd _
  have hval : ∀ (j : Nat) t v, Try.f6.params[j]? = some t → args[j]? = some v → Value.okWide Try.prog W .any base t v := hval0
  have hW' := hW
  obtain ⟨p, q, hA0, hV, rfl, hfz, hnd⟩ := hW
  have hA : DataW.TrodAll enc Try.prog W 0 (fun _ => true) true Try.f6.params.toList args.toList ds p := hA0
  rw [Try.params6] at hA hval
  obtain ⟨v0, vs0, d0, ds0, p0, q0, hargs, rfl, rfl, h0, r0⟩ := trodAll_cons hA
  obtain ⟨v1, vs1, d1, ds1, p1, q1, rfl, rfl, rfl, h1, r1⟩ := trodAll_cons r0
  obtain ⟨rfl, rfl, rfl⟩ := trodAll_nil r1
  obtain rfl : args = #[v0, v1] := by cases args; simp_all
  obtain ⟨rfl, rfl⟩ := trodVars_none hV
  obtain ⟨a0, len0, cap0, rfl⟩ := okWide_slice Try.underlying28 (hval 0 28 v0 rfl rfl)
  have k0 := h0
  have lt0 : ∀ x ∈ p0, x.block < W.heap.size := by obtain ⟨m, hm⟩ := k0; exact DataW.trod_lt m _ _ _ hm
  obtain ⟨z0, w0⟩ : ∃ zs, IsRow .u8 W a0 len0 cap0 zs := by
    obtain ⟨fuel, hf⟩ := h0
    rcases open_ints Try.underlying28 Try.underlying5 (by kernel_rfl) hf with ⟨hcs, _⟩ | ⟨x, l, c, zs, hcs, _, hl, hm, hz, _, hcell, hwz⟩
    · simp [Value.cells] at hcs
      obtain ⟨rfl, rfl, rfl⟩ := hcs
      exact ⟨[], .inl ⟨rfl, rfl, rfl, rfl⟩⟩
    · simp [Value.cells] at hcs
      obtain ⟨rfl, rfl, rfl⟩ := hcs
      exact ⟨zs, .inr ⟨_, rfl, hl, hm, by simpa using hz, hcell, hwz⟩⟩
  obtain ⟨a1, len1, cap1, rfl⟩ := okWide_slice Try.underlying28 (hval 1 28 v1 rfl rfl)
  have k1 := h1
  have lt1 : ∀ x ∈ p1, x.block < W.heap.size := by obtain ⟨m, hm⟩ := k1; exact DataW.trod_lt m _ _ _ hm
  obtain ⟨z1, w1⟩ : ∃ zs, IsRow .u8 W a1 len1 cap1 zs := by
    obtain ⟨fuel, hf⟩ := h1
    rcases open_ints Try.underlying28 Try.underlying5 (by kernel_rfl) hf with ⟨hcs, _⟩ | ⟨x, l, c, zs, hcs, _, hl, hm, hz, _, hcell, hwz⟩
    · simp [Value.cells] at hcs
      obtain ⟨rfl, rfl, rfl⟩ := hcs
      exact ⟨[], .inl ⟨rfl, rfl, rfl, rfl⟩⟩
    · simp [Value.cells] at hcs
      obtain ⟨rfl, rfl, rfl⟩ := hcs
      exact ⟨zs, .inr ⟨_, rfl, hl, hm, by simpa using hz, hcell, hwz⟩⟩
  clear hA0 hval0
  refine (walk a0 len0 cap0 z0 a1 len1 cap1 z1 W w0 w1).mono fun e W' ⟨he, bel⟩ => ?_
  subst he
  exact ⟨_, rfl, _, _, _, [], _, [], hW', trodAll_mk1 (shut_bool Try.underlying4 _), (trodAll_cons_mk (Below.trod laidOut (by kernel_rfl) (of_decide_eq_true (by kernel_rfl)) k0 bel lt0) (trodAll_cons_mk (Below.trod laidOut (by kernel_rfl) (of_decide_eq_true (by kernel_rfl)) k1 bel lt1) trodAll_mk0)), rfl, bel.frame _, fun h => by cases h⟩

theorem closed : joinedFacts Try.prog 6 Try.f6 Rows.fnVarintHighSpec Rows.fnVarintHighRow = true := by
  unfold joinedFacts
  rw [mayEnter_ok, lifts_ok, make_ok]
  kernel_rfl

theorem over : Rows.fnVarintHighRow.holds Try.pinned (OpenSpec.ofChange Rows.fnVarintHighSpec) :=
  OpenClaim.holds_of_wide 6 Try.f6 rfl rfl rfl rfl rfl rfl rfl ⟨rfl, rfl, rfl, rfl, rfl⟩ rfl rfl rfl rfl rfl (by kernel_rfl) Try.func6 closed
    (of_decide_eq_true (by kernel_rfl)) (by unfold Func.isWrapper; first | (rw [if_pos (by decide +kernel)]; kernel_rfl) | (rw [if_neg (by decide +kernel)]; exact ⟨rfl, rfl⟩))
    (fun os started H enc _ => lifted os started H enc)

/-- ████ THE STATEMENT ████ -/
theorem proved : Rows.FnVarintHighSaid := over
#print axioms proved
end Go.Proofs.Ytnmanfjhbppbdaa.fnVarintHigh
