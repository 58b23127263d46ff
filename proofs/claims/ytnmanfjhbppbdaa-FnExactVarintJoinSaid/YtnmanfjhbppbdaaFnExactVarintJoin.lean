/- Proved: the law FnExactVarintJoin returns true for every input and leaves its arguments as they were: The program's VarintJoin returns what the reference's returns, for all arguments. No condition. -/
import Derived.Test.YtnmanfjhbppbdaaRows
import Derived.WalkKit
import Derived.ProofKit
import Derived.OpenShut
import Derived.ShutString
import Derived.ChangeOld
import Derived.Below
import Derived.Test.YtnmanfjhbppbdaaHead
import Derived.Test.YtnmanfjhbppbdaaVLists
import Derived.Test.YtnmanfjhbppbdaaIntsTo
namespace Go.Proofs.Ytnmanfjhbppbdaa.fnExactVarintJoin
open Go.ChangeShapes Go.WideShapes Go.ChangeAt Go.RowKit
open Go.ChangeMaps (open_string shut_string)
set_option linter.unusedVariables false

theorem own : ownKnob Try.prog.godebug = none := by kernel_rfl
theorem laidOut : laidOutB Try.prog = true := by kernel_rfl

theorem rowIn {w : World} {A : Option Addr} {len cap : Nat} {zs : List Int} (h : IsRow .i64 w A len cap zs) : IntsIn w w.heap.size A (zs.take len) ∧ (zs.take len).length = len := by
  rcases h with ⟨rfl, rfl, rfl, rfl⟩ | ⟨x, rfl, hl, hm, hz, hc, hw⟩
  · exact ⟨fun h => absurd h (by simp), rfl⟩
  · have hlen : (zs.take len).length = len := by rw [List.length_take]; omega
    refine ⟨fun h0 => ?_, hlen⟩
    rw [hlen] at h0
    obtain ⟨b, off, spot⟩ := x
    have hs : spot = none := by simpa [Addr.add] using World.cell?_spot (hc 0 (by omega))
    subst hs
    have e : ∀ i, (⟨b, off, none⟩ : Addr).add i = ⟨b, off + i, none⟩ := by
      intro i; unfold Addr.add; by_cases hi : i = 0 <;> simp [hi]
    refine ⟨b, off, rfl, by simpa [e] using cell_lt (hc 0 (by omega)), fun i hi => ?_⟩
    rw [hlen] at hi
    have hci := hc i (by omega)
    rw [e] at hci
    rw [hci, List.getD_eq_getElem?_getD, List.getD_eq_getElem?_getD, List.getElem?_take_of_lt hi]
theorem eq_same (B B' : Nat) (A A' : Option Addr) (xs : List Int) (c c' : Nat) (w : World) (h : IntsIn w B A xs) (h' : IntsIn w B' A' xs) (hBw : B ≤ w.heap.size) (hBw' : B' ≤ w.heap.size) (hm : xs.length ≤ 1000000000000) :
    Calls Try.prog 30 #[.slice A xs.length c, .slice A' xs.length c'] w (EqPost w true) :=
  (eqIntS_any B B' A A' xs xs c c' w h h' hBw hBw' hm).mono fun _ _ ⟨he, hb⟩ => ⟨by rw [he, decide_eq_true rfl], hb⟩

theorem walk (a0 : Option Addr) (len0 cap0 : Nat) (z0 : List Int) (w : World) (w0 : IsRow .i64 w a0 len0 cap0 z0) :
    Calls Try.prog 12 #[.slice a0 len0 cap0] w fun e w' => e = .returned (.bool true) ∧ Below w.heap.size w w' := by
  obtain ⟨hI, hxl⟩ := rowIn w0
  obtain ⟨xs, hxs⟩ : ∃ xs, xs = z0.take len0 := ⟨_, rfl⟩
  rw [← hxs] at hI hxl
  subst hxl
  have I := Lib.hid hI
  obtain ⟨ok, hok⟩ : ∃ ok, joinOk xs = ok := ⟨_, rfl⟩
  obtain ⟨s, hs⟩ : ∃ s, (⟨(if joinOk xs then vjoin xs else []).toArray⟩ : ByteArray) = s := ⟨_, rfl⟩
  have OK := Lib.hid hok
  have HS := Lib.hid hs
  clear hI hxs w0 hok hs
  by_cases hl : xs.length ≤ 1048576
  · go_enter Try.func12, Try.ntmps12
    go_wp2_with fail
    with_reducible refine (toInts_any w.heap.size a0 xs cap0 w I.out (Nat.le_refl _) (by omega)).mono ?_
    rintro e w1 ⟨A1, c1, rfl, hO, hB⟩
    have O1 := Lib.hid hO.in_
    have B1 := Lib.hid hB
    clear hO hB
    go_wp2_with fail
    with_reducible refine (sjoin_of w1.heap.size A1 xs c1 w1 O1.out (Nat.le_refl _) (by omega) ok s OK.out HS.out).mono ?_
    rintro e w2 ⟨rfl, hB⟩
    have B2 := Lib.hid (drew2 B1.out hB)
    clear hB
    go_wp2_with fail
    with_reducible refine (toInts_any w.heap.size a0 xs cap0 w2 (I.out.below B2.out) B2.out.size (by omega)).mono ?_
    rintro e w3 ⟨A3, c3, rfl, hO, hB⟩
    have O3 := Lib.hid hO.in_
    have B3 := Lib.hid (drew2 B2.out hB)
    clear hO hB
    go_wp2_with fail
    with_reducible refine (ijoin_of w3.heap.size A3 xs c3 w3 O3.out (Nat.le_refl _) (by omega) ok s OK.out HS.out).mono ?_
    rintro e w4 ⟨rfl, hB⟩
    have O4 := Lib.hid ((O3.out.below hB).mono hB.size)
    have B4 := Lib.hid (drew2 B3.out hB)
    clear hB
    go_wp2_with fail
    with_reducible refine (toInts_any w.heap.size a0 xs cap0 w4 (I.out.below B4.out) B4.out.size (by omega)).mono ?_
    rintro e w5 ⟨A5, c5, rfl, hO, hB⟩
    have O5 := Lib.hid hO.in_
    have O6 := Lib.hid ((O4.out.below hB).mono hB.size)
    have B5 := Lib.hid (drew2 B4.out hB)
    clear hO hB
    go_wp2_with fail
    with_reducible refine (eq_same w5.heap.size w5.heap.size A3 A5 xs c3 c5 w5 O6.out O5.out (Nat.le_refl _) (Nat.le_refl _) (by omega)).mono ?_
    rintro e w6 ⟨rfl, hB⟩
    have B6 := Lib.hid (drew2 B5.out hB)
    clear hB
    go_wp2
    go_ret
    exact ⟨rfl, B6.out⟩
  · go_enter Try.func12, Try.ntmps12
    go_wp2
    go_ret
    exact ⟨rfl, Below.refl _ _⟩

set_option maxRecDepth 100000 in
theorem lifted (os : Os) (started : os.Started) (H : Type) (enc : TypeId × Value → H) :
    ReturnsInHanded {} Try.checked os 12 .any (Rows.fnExactVarintJoinSpec.pre6 enc Try.prog Try.f12 Rows.fnExactVarintJoinRow.domain false) (Rows.fnExactVarintJoinSpec.post enc Try.prog Try.f12 false true false false) := by
  refine returnsInHanded_of_change (C := Try.checked) own started (by kernel_rfl) Try.func12
    (ChangeSpec.witness6 (enc := enc) (C := Try.checked) false ⟨#[], #[.slice none 0 0], []⟩ 8 (by kernel_rfl) (by kernel_rfl) (by kernel_rfl) (by kernel_rfl)) ?_
  intro W base args ds gs before hval0 hW hcnd _
  have hval : ∀ (j : Nat) t v, Try.f12.params[j]? = some t → args[j]? = some v → Value.okWide Try.prog W .any base t v := hval0
  have hW' := hW
  obtain ⟨p, q, hA0, hV, rfl, hfz, hnd⟩ := hW
  have hA : DataW.TrodAll enc Try.prog W 0 (fun _ => true) true Try.f12.params.toList args.toList ds p := hA0
  rw [Try.params12] at hA hval
  obtain ⟨v0, vs0, d0, ds0, p0, q0, hargs, rfl, rfl, h0, r0⟩ := trodAll_cons hA
  obtain ⟨rfl, rfl, rfl⟩ := trodAll_nil r0
  obtain rfl : args = #[v0] := by cases args; simp_all
  obtain ⟨rfl, rfl⟩ := trodVars_none hV
  obtain ⟨a0, len0, cap0, rfl⟩ := okWide_slice Try.underlying29 (hval 0 29 v0 rfl rfl)
  have k0 := h0
  have lt0 : ∀ x ∈ p0, x.block < W.heap.size := by obtain ⟨m, hm⟩ := k0; exact DataW.trod_lt m _ _ _ hm
  obtain ⟨z0, w0⟩ : ∃ zs, IsRow .i64 W a0 len0 cap0 zs := by
    obtain ⟨fuel, hf⟩ := h0
    rcases open_ints Try.underlying29 Try.underlying3 (by kernel_rfl) hf with ⟨hcs, _⟩ | ⟨x, l, c, zs, hcs, _, hl, hm, hz, _, hcell, hwz⟩
    · simp [Value.cells] at hcs
      obtain ⟨rfl, rfl, rfl⟩ := hcs
      exact ⟨[], .inl ⟨rfl, rfl, rfl, rfl⟩⟩
    · simp [Value.cells] at hcs
      obtain ⟨rfl, rfl, rfl⟩ := hcs
      exact ⟨zs, .inr ⟨_, rfl, hl, hm, by simpa using hz, hcell, hwz⟩⟩
  clear hA0 hval0
  refine (walk a0 len0 cap0 z0 W w0).mono fun e W' ⟨he, bel⟩ => ?_
  subst he
  exact ⟨_, rfl, _, _, _, [], _, [], hW', trodAll_mk1 (shut_bool Try.underlying4 _), (trodAll_cons_mk (Below.trod laidOut (by kernel_rfl) (of_decide_eq_true (by kernel_rfl)) k0 bel lt0) trodAll_mk0), rfl, bel.frame _, fun h => by cases h⟩

theorem closed : joinedFacts Try.prog 12 Try.f12 Rows.fnExactVarintJoinSpec Rows.fnExactVarintJoinRow = true := by
  unfold joinedFacts
  rw [mayEnter_ok, lifts_ok, make_ok]
  kernel_rfl

theorem over : Rows.fnExactVarintJoinRow.holds Try.pinned (OpenSpec.ofChange Rows.fnExactVarintJoinSpec) :=
  OpenClaim.holds_of_wide 12 Try.f12 rfl rfl rfl rfl rfl rfl rfl ⟨rfl, rfl, rfl, rfl, rfl⟩ rfl rfl rfl rfl rfl (by kernel_rfl) Try.func12 closed
    (of_decide_eq_true (by kernel_rfl)) (by unfold Func.isWrapper; first | (rw [if_pos (by decide +kernel)]; kernel_rfl) | (rw [if_neg (by decide +kernel)]; exact ⟨rfl, rfl⟩))
    (fun os started H enc _ => lifted os started H enc)

/-- ████ THE STATEMENT ████ -/
theorem proved : Rows.FnExactVarintJoinSaid := over
#print axioms proved
end Go.Proofs.Ytnmanfjhbppbdaa.fnExactVarintJoin
