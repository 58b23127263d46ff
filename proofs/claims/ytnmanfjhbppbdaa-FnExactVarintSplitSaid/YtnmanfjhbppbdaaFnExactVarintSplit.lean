/- Proved: the law FnExactVarintSplit returns true for every input and leaves its arguments as they were: The program's VarintSplit returns what the reference's returns, for all arguments. No condition. -/
import Derived.Test.YtnmanfjhbppbdaaRows
import Derived.WalkKit
import Derived.ProofKit
import Derived.OpenShut
import Derived.Below
import Derived.ShutString
import Derived.Test.YtnmanfjhbppbdaaHead
import Derived.Test.YtnmanfjhbppbdaaVSplit
import Derived.Test.YtnmanfjhbppbdaaIntsEq
namespace Go.Proofs.Ytnmanfjhbppbdaa.fnExactVarintSplit
open Go.ChangeShapes Go.WideShapes Go.ChangeAt Go.RowKit
open Go.ChangeMaps (open_string shut_string)
set_option linter.unusedVariables false      -- a walk need not use every 'w<i>' (that an integer argument fits its kind)

theorem own : ownKnob Try.prog.godebug = none := by kernel_rfl

theorem vsplit_len : ∀ (c : Nat) (l : List UInt8) (xs : List Int), vsplit c l = some xs → xs.length ≤ c := by
  intro c
  induction c with
  | zero =>
    intro l xs h
    cases l with
    | nil => simp [vsplit] at h; subst h; simp
    | cons b r => simp [vsplit] at h
  | succ c ih =>
    intro l xs h
    cases l with
    | nil => simp [vsplit] at h; subst h; simp
    | cons b r =>
      simp only [vsplit] at h
      split at h
      · simp only [Option.map_eq_some_iff] at h
        obtain ⟨ys, h1, rfl⟩ := h
        have := ih _ _ h1
        simp; omega
      · cases h
def Split2 (w : World) (xs : List Int) (ok : Bool) (e : Ending) (w' : World) : Prop :=
  ∃ A c, e = .returned (.tuple #[.slice A xs.length c, .bool ok]) ∧ OwnInts w' w.heap.size A c xs ∧ Below w.heap.size w w'
theorem split_parts (l : List UInt8) : ∃ (xs : List Int) (ok : Bool), (vsplit 20 l).getD [] = xs ∧ (vsplit 20 l).isSome = ok ∧ xs.length ≤ 20 := by
  refine ⟨_, _, rfl, rfl, ?_⟩
  cases h : vsplit 20 l with
  | none => simp
  | some xs => exact vsplit_len 20 l xs h
theorem isplit_of (s : ByteArray) (w : World) (hm : s.size ≤ 9223372036854775807) (xs : List Int) (ok : Bool) (h1 : (vsplit 20 s.data.toList).getD [] = xs) (h2 : (vsplit 20 s.data.toList).isSome = ok) :
    Calls Try.prog 24 #[.string s] w (Split2 w xs ok) :=
  (isplit_any s w hm).mono fun _ _ ⟨A, c, he, ho, hb⟩ => ⟨A, c, by rw [he, h1, h2], by rw [← h1]; exact ho, hb⟩
theorem ssplit_of (s : ByteArray) (w : World) (hm : s.size ≤ 9223372036854775807) (xs : List Int) (ok : Bool) (h1 : (vsplit 20 s.data.toList).getD [] = xs) (h2 : (vsplit 20 s.data.toList).isSome = ok) :
    Calls Try.prog 29 #[.string s] w (Split2 w xs ok) :=
  (ssplit_any s w hm).mono fun _ _ ⟨A, c, he, ho, hb⟩ => ⟨A, c, by rw [he, h1, h2], by rw [← h1]; exact ho, hb⟩
theorem eq_same (B B' : Nat) (A A' : Option Addr) (xs : List Int) (c c' : Nat) (w : World) (h : IntsIn w B A xs) (h' : IntsIn w B' A' xs) (hBw : B ≤ w.heap.size) (hBw' : B' ≤ w.heap.size) (hm : xs.length ≤ 1000000000000) :
    Calls Try.prog 30 #[.slice A xs.length c, .slice A' xs.length c'] w (EqPost w true) :=
  (eqIntS_any B B' A A' xs xs c c' w h h' hBw hBw' hm).mono fun _ _ ⟨he, hb⟩ => ⟨by rw [he, decide_eq_true rfl], hb⟩

theorem walk (a0 : ByteArray) (w0 : a0.size ≤ maxLen) (w : World) :
    Calls Try.prog 9 #[.string a0] w fun e w' => e = .returned (.bool true) ∧ Below w.heap.size w w' := by
  unfold maxLen at w0
  by_cases hl : a0.size ≤ 1048576
  · obtain ⟨xs, ok, hx1, hx2, hlen⟩ := split_parts a0.data.toList
    have HX := Lib.hid (And.intro hx1 hx2)
    clear hx1 hx2
    go_enter Try.func9, Try.ntmps9
    go_wp2_with fail
    with_reducible refine (ssplit_of a0 w (by omega) xs ok HX.out.1 HX.out.2).mono ?_
    rintro e w1 ⟨A, c, rfl, hO, hB⟩
    have I0 := Lib.hid hO.in_
    have B0 := Lib.hid hB
    clear hO hB
    go_wp2_with fail
    with_reducible refine (isplit_of a0 w1 (by omega) xs ok HX.out.1 HX.out.2).mono ?_
    rintro e w2 ⟨A', c', rfl, hO, hB⟩
    have O1 := Lib.hid hO
    have K := Lib.hid hB
    clear hO hB
    go_wp2_with fail
    with_reducible refine (eq_same w2.heap.size w1.heap.size A' A xs c' c w2 O1.out.in_ (I0.out.below K.out) (Nat.le_refl _) K.out.size (by omega)).mono ?_
    rintro e w3 ⟨rfl, hB⟩
    have O2 := Lib.hid (O1.out.below hB)
    have K2 := Lib.hid (K.out.trans (hB.mono K.out.size))
    clear hB
    go_wp2_with fail
    with_reducible refine (mark_any w1.heap.size A' xs c' 1 w3 O2.out (by omega) (by omega) (by omega)).mono ?_
    rintro e w4 ⟨rfl, hO, hB⟩
    have O3 := Lib.hid hO
    have K3 := Lib.hid (K2.out.trans hB)
    clear hO hB
    go_wp2_with fail
    with_reducible refine (held_any w4.heap.size xs.length A' c' 1 w4 (own_marks O3.out) (by omega) (by omega) (by omega)).mono ?_
    rintro e w5 ⟨rfl, rfl⟩
    go_wp2_with fail
    with_reducible refine (isplit_of a0 w4 (by omega) xs ok HX.out.1 HX.out.2).mono ?_
    rintro e w6 ⟨A2, c2, rfl, hO, hB⟩
    have O4 := Lib.hid hO
    have M4 := Lib.hid ((own_marks O3.out).below hB)
    have K4 := Lib.hid (K3.out.trans (hB.mono K3.out.size))
    have L4 := Lib.hid hB.size
    clear hO hB
    go_wp2_with fail
    with_reducible refine (eq_same w6.heap.size w1.heap.size A2 A xs c2 c w6 O4.out.in_ (I0.out.below K4.out) (Nat.le_refl _) K4.out.size (by omega)).mono ?_
    rintro e w7 ⟨rfl, hB⟩
    have M5 := Lib.hid (M4.out.below (hB.mono L4.out))
    have K5 := Lib.hid (K4.out.trans (hB.mono K4.out.size))
    clear hB
    go_wp2_with fail
    with_reducible refine (held_any w4.heap.size xs.length A' c' 1 w7 M5.out (by omega) (by omega) (by omega)).mono ?_
    rintro e w8 ⟨rfl, rfl⟩
    go_wp2
    go_ret
    exact ⟨rfl, drew2 B0.out K5.out⟩
  · go_enter Try.func9, Try.ntmps9
    go_wp2
    go_ret
    exact ⟨rfl, Below.refl _ _⟩

set_option maxRecDepth 100000 in
theorem lifted (os : Os) (started : os.Started) (H : Type) (enc : TypeId × Value → H) :
    ReturnsInHanded {} Try.checked os 9 .any (Rows.fnExactVarintSplitSpec.pre6 enc Try.prog Try.f9 Rows.fnExactVarintSplitRow.domain false) (Rows.fnExactVarintSplitSpec.post enc Try.prog Try.f9 false true false false) := by
  refine returnsInHanded_of_change (C := Try.checked) own started (by kernel_rfl) Try.func9
    (ChangeSpec.witness6 (enc := enc) (C := Try.checked) false ⟨#[], #[.string ByteArray.empty], []⟩ 8 (by kernel_rfl) (by kernel_rfl) (by kernel_rfl) (by kernel_rfl)) ?_
  intro W base args ds gs before hval0 hW hcnd _
  have hval : ∀ (j : Nat) t v, Try.f9.params[j]? = some t → args[j]? = some v → Value.okWide Try.prog W .any base t v := hval0
  have hW' := hW
  obtain ⟨p, q, hA0, hV, rfl, hfz, hnd⟩ := hW
  have hA : DataW.TrodAll enc Try.prog W 0 (fun _ => true) true Try.f9.params.toList args.toList ds p := hA0
  rw [Try.params9] at hA hval
  obtain ⟨v0, vs0, d0, ds0, p0, q0, hargs, rfl, rfl, h0, r0⟩ := trodAll_cons hA
  obtain ⟨rfl, rfl, rfl⟩ := trodAll_nil r0
  obtain rfl : args = #[v0] := by cases args; simp_all
  obtain ⟨rfl, rfl⟩ := trodVars_none hV
  obtain ⟨a0, rfl, rfl, rfl, w0⟩ := open_string Try.underlying9 (hval 0 9 v0 rfl rfl) h0
  clear hA0 hval0
  simp only [List.append_nil] at hW'
  refine (walk a0 w0 W).mono fun e W' ⟨he, hg⟩ => ?_
  subst he
  exact ⟨_, rfl, _, _, _, [], _, [], hW', (trodAll_cons_mk (shut_bool Try.underlying4 _) trodAll_mk0), (trodAll_cons_mk (shut_string Try.underlying9 w0) trodAll_mk0), rfl, hg.frame _, fun h => by cases h⟩

theorem closed : joinedFacts Try.prog 9 Try.f9 Rows.fnExactVarintSplitSpec Rows.fnExactVarintSplitRow = true := by
  unfold joinedFacts
  rw [mayEnter_ok, lifts_ok, make_ok]
  kernel_rfl

theorem over : Rows.fnExactVarintSplitRow.holds Try.pinned (OpenSpec.ofChange Rows.fnExactVarintSplitSpec) :=
  OpenClaim.holds_of_wide 9 Try.f9 rfl rfl rfl rfl rfl rfl rfl ⟨rfl, rfl, rfl, rfl, rfl⟩ rfl rfl rfl rfl rfl (by kernel_rfl) Try.func9 closed
    (of_decide_eq_true (by kernel_rfl)) (by unfold Func.isWrapper; first | (rw [if_pos (by decide +kernel)]; kernel_rfl) | (rw [if_neg (by decide +kernel)]; exact ⟨rfl, rfl⟩))
    (fun os started H enc _ => lifted os started H enc)

/-- ████ THE STATEMENT ████ -/
theorem proved : Rows.FnExactVarintSplitSaid :=
  over
#print axioms proved
end Go.Proofs.Ytnmanfjhbppbdaa.fnExactVarintSplit
