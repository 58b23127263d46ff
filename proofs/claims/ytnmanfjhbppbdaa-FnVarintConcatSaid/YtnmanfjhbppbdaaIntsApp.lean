/- 'append(xs, ys...)' onto a slice of integers of the call's own, under a guard that says yes. No condition but a bound on the lengths. -/
import Derived.Test.YtnmanfjhbppbdaaIntsEq
namespace Go.Proofs.Ytnmanfjhbppbdaa
open Go.RowKit
theorem wpList_when {P : Program} {ops : Array Oper} {Q : Exit → Act → World → Prop} {a : Act} {w : World} {rest : List Oper} {o : Oper} (hw : Region.wanted o (yielded ops a.tmps) = true)
    (h : ∀ K : Act → World → Prop, (∀ a w, wpList P ops Q rest a w → K a w) → o.wp P a w K Q) : wpList P ops Q (o :: rest) a w :=
  wpList_step fun K hK => by simp only [hw, if_true]; exact h K hK
theorem append_nil {w : World} {B : Nat} {A : Option Addr} {c : Nat} {xs : List Int} (hown : OwnInts w B A c xs) (ty : TypeId) (c2 : Nat) :
    (Builtin.append_ #[29, 29] ty #[.slice A xs.length c, .slice none 0 c2]).run Try.prog w = .ok (.slice A xs.length c) w := by
  obtain ⟨i, hi, _, _, _⟩ := info_parts int_info
  rcases hown.2 with ⟨h1, h2⟩ | ⟨g, cap, cur, h1, _, _, hnc, _⟩
  · rw [h1]
    simp [Builtin.append_, run_underlying Try.underlying29, sizeOf, typeInfo, hi, Builtin.lenOf, Builtin.firstCells]
  · rw [h1]
    simp [Builtin.append_, run_underlying Try.underlying29, sizeOf, typeInfo, hi, Builtin.lenOf, Builtin.firstCells, hnc, storeCells]
theorem run_append_ints {w : World} {B : Nat} {A : Option Addr} {c : Nat} {xs : List Int} (hown : OwnInts w B A c xs) (B2 : Nat) (A2 : Option Addr) (c2 : Nat) (ys : List Int) (h2 : IntsIn w B2 A2 ys) (hl : xs.length + ys.length ≤ 1000000000) (hB : B ≤ w.heap.size) (ty : TypeId) :
    ∃ A' c' w', (Builtin.append_ #[29, 29] ty #[.slice A xs.length c, .slice A2 ys.length c2]).run Try.prog w = .ok (.slice A' (xs ++ ys).length c') w' ∧ OwnInts w' B A' c' (xs ++ ys) ∧ Below B w w' := by
  obtain ⟨i, hi, hz, h1, h3⟩ := info_parts int_info
  cases A2 with
  | none =>
    have hy : ys = [] := by
      cases ys with
      | nil => rfl
      | cons y ys => obtain ⟨_, _, h, _⟩ := h2 (by simp); cases h
    subst hy
    refine ⟨A, c, w, ?_, by simpa using hown, Below.refl _ _⟩
    simpa using append_nil hown ty c2
  | some ad =>
    obtain ⟨v', w', hrun, ho, hg, _⟩ := run_append_own (P := Try.prog) w B 29 ty 3 i (.int .i64 0) 1 8 Try.underlying29 hi hz h1 h3 rfl (by decide) _ xs.length _ hown ad ys.length c2 (ys.map (Value.int .i64)) (by simp) (fun j u hj => by
        have hj' : j < ys.length := by
          have := (List.getElem?_eq_some_iff.1 hj).1
          simpa using this
        obtain ⟨b, off, hA, _, hc⟩ := h2 (by omega)
        injection hA with hA
        subst hA
        have e : (⟨b, off, none⟩ : Addr).add j = ⟨b, off + j, none⟩ := by
          unfold Addr.add; by_cases h0 : j = 0 <;> simp [h0]
        rw [e, hc j hj']
        rw [List.getElem?_map, List.getElem?_eq_getElem hj'] at hj
        rw [List.getD_eq_getElem?_getD, List.getElem?_eq_getElem hj']
        exact hj) (fun u hu => by
        obtain ⟨y, _, rfl⟩ := List.mem_map.1 hu
        rfl) (by unfold maxLen; omega) (by omega) hB
    obtain ⟨A', c', rfl⟩ := own_form ho
    have e : (xs ++ ys).length = xs.length + ys.length := by simp
    refine ⟨A', c', w', by rw [hrun, e], ?_, (Below.refl _ _).grown hg hB (fun k hk => (World.ownsRow.lt hown k hk).1)⟩
    unfold OwnInts
    rw [e, List.map_append]
    exact ho
theorem wpList_append_ints {ops : Array Oper} {rest : List Oper} {o : Oper} {a : Act} {w : World} {Q : Exit → Act → World → Prop} (hw : Region.wanted o (yielded ops a.tmps) = true) (s x : Operand)
    (ho : o.op = .call { callee := .builtin .append, args := #[s, x], argTypes := #[29, 29] })
    (B : Nat) (A : Option Addr) (c : Nat) (xs : List Int) (hs : a.eval s = .slice A xs.length c) (hown : OwnInts w B A c xs)
    (B2 : Nat) (A2 : Option Addr) (c2 : Nat) (ys : List Int) (hx : a.eval x = .slice A2 ys.length c2) (h2 : IntsIn w B2 A2 ys) (hl : xs.length + ys.length ≤ 1000000000) (hB : B ≤ w.heap.size)
    (h : ∀ A' c' w', OwnInts w' B A' c' (xs ++ ys) → Below B w w' → wpList Try.prog ops Q rest (a.put o.dst (.slice A' (xs ++ ys).length c')) w') : wpList Try.prog ops Q (o :: rest) a w := by
  refine wpList_when hw fun K hK => ?_
  obtain ⟨A', c', w', hrun, h3, h4⟩ := run_append_ints hown B2 A2 c2 ys h2 hl hB o.type
  unfold Oper.wp execOp
  simp only [ho, resolve, invoke, builtin, Sem.run_bind, Sem.run_pure, Result.andThen_ok, List.map_toArray, List.map_cons, List.map_nil, hs, hx, hrun]
  exact hK _ _ (h A' c' w' h3 h4)
end Go.Proofs.Ytnmanfjhbppbdaa
