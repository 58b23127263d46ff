/- The append of integers that lie in memory, at a step of a walk; the list behind it is a letter; integers that a call has just laid. No condition but a bound on the lengths. -/
import Derived.Test.YtibnjbbiagjnjaaIStep
import Derived.Test.YtibnjbbiagjnjaaIntsEq
namespace Go.Proofs.Ytibnjbbiagjnjaa
open Go.RowKit
theorem append_none {w : World} {B : Nat} {A : Option Addr} {c : Nat} {xs : List Int} (hown : OwnInts w B A c xs) (ty : TypeId) (c2 : Nat) :
    (Builtin.append_ #[50, 50] ty #[.slice A xs.length c, .slice none 0 c2]).run Try.prog w = .ok (.slice A xs.length c) w := by
  obtain ⟨i, hi, _, _, _⟩ := info_parts int_info
  rcases hown.2 with ⟨h1, h2⟩ | ⟨g, cap, cur, h1, _, _, hnc, _⟩
  · rw [h1]
    simp [Builtin.append_, run_underlying Try.underlying50, sizeOf, typeInfo, hi, Builtin.lenOf, Builtin.firstCells]
  · rw [h1]
    simp [Builtin.append_, run_underlying Try.underlying50, sizeOf, typeInfo, hi, Builtin.lenOf, Builtin.firstCells, hnc, storeCells]
theorem run_append_mem {w : World} {B : Nat} {A : Option Addr} {c : Nat} {xs : List Int} (hown : OwnInts w B A c xs) (B2 : Nat) (A2 : Option Addr) (c2 : Nat) (ys : List Int) (h2 : IntsIn w B2 A2 ys) (hl : xs.length + ys.length ≤ 1000000000) (hB : B ≤ w.heap.size) (ty : TypeId) :
    ∃ A' c' w', (Builtin.append_ #[50, 50] ty #[.slice A xs.length c, .slice A2 ys.length c2]).run Try.prog w = .ok (.slice A' (xs ++ ys).length c') w' ∧ OwnInts w' B A' c' (xs ++ ys) ∧ Below B w w' := by
  obtain ⟨i, hi, hz, h1, h3⟩ := info_parts int_info
  cases A2 with
  | none =>
    have hy : ys = [] := by
      cases ys with
      | nil => rfl
      | cons y ys => obtain ⟨_, _, h, _⟩ := h2 (by simp); cases h
    subst hy
    refine ⟨A, c, w, ?_, by simpa using hown, Below.refl _ _⟩
    simpa using append_none hown ty c2
  | some ad =>
    obtain ⟨v', w', hrun, ho, hg, _⟩ := run_append_own (P := Try.prog) w B 50 ty 3 i (.int .i64 0) 1 8 Try.underlying50 hi hz h1 h3 rfl (by decide) _ xs.length _ hown ad ys.length c2 (ys.map (Value.int .i64)) (by simp) (fun j u hj => by
        have hj' : j < ys.length := by
          have := (List.getElem?_eq_some_iff.1 hj).1
          simpa using this
        obtain ⟨b, off, hA, _, hc⟩ := h2 (by omega)
        injection hA with hA
        subst hA
        have e : (⟨b, off, none⟩ : Addr).add j = ⟨b, off + j, none⟩ := by
          unfold Addr.add; by_cases h0 : j = 0 <;> simp [h0]
        rw [e, hc j hj']
        rw [List.getElem?_map, List.getElem?_eq_getElem hj'] at hj
        rw [List.getD_eq_getElem?_getD, List.getElem?_eq_getElem hj']
        exact hj) (fun u hu => by
        obtain ⟨y, _, rfl⟩ := List.mem_map.1 hu
        rfl) (by unfold maxLen; omega) (by omega) hB
    obtain ⟨A', c', rfl⟩ := own_form ho
    have e : (xs ++ ys).length = xs.length + ys.length := by simp
    refine ⟨A', c', w', by rw [hrun, e], ?_, (Below.refl _ _).grown hg hB (fun k hk => (World.ownsRow.lt hown k hk).1)⟩
    unfold OwnInts
    rw [e, List.map_append]
    exact ho
theorem wp_append_mem {o : Oper} {a : Act} {w : World} {K : Act → World → Prop} {Q : Exit → Act → World → Prop} (s x : Operand)
    (ho : o.op = .call { callee := .builtin .append, args := #[s, x], argTypes := #[50, 50] })
    (B : Nat) (A : Option Addr) (c m : Nat) (xs : List Int) (hm : m = xs.length) (hs : a.eval s = .slice A m c) (hown : OwnInts w B A c xs)
    (B2 : Nat) (A2 : Option Addr) (c2 n : Nat) (ys : List Int) (hn : n = ys.length) (hx : a.eval x = .slice A2 n c2) (h2 : IntsIn w B2 A2 ys) (hl : m + n ≤ 1000000) (hB : B ≤ w.heap.size)
    (h : ∀ A' c' w' qs, Hid (qs = xs ++ ys) → Hid (qs.length = m + n) → Hid (OwnInts w' B A' c' qs) → Hid (Below B w w') → K (a.put o.dst (.slice A' qs.length c')) w') : o.wp Try.prog a w K Q := by
  subst hm hn
  obtain ⟨A', c', w', hrun, h3, h4⟩ := run_append_mem hown B2 A2 c2 ys h2 (by omega) hB o.type
  unfold Oper.wp execOp
  simp only [ho, resolve, invoke, builtin, Sem.run_bind, Sem.run_pure, Result.andThen_ok, List.map_toArray, List.map_cons, List.map_nil, hs, hx, hrun]
  exact h A' c' w' _ rfl List.length_append h3 h4
theorem wpList_append_mem {ops : Array Oper} {rest : List Oper} {o : Oper} {a : Act} {w : World} {Q : Exit → Act → World → Prop} (hw : Region.wanted o (yielded ops a.tmps) = true) (s x : Operand)
    (ho : o.op = .call { callee := .builtin .append, args := #[s, x], argTypes := #[50, 50] })
    (B : Nat) (A : Option Addr) (c m : Nat) (xs : List Int) (hm : m = xs.length) (hs : a.eval s = .slice A m c) (hown : OwnInts w B A c xs)
    (B2 : Nat) (A2 : Option Addr) (c2 n : Nat) (ys : List Int) (hn : n = ys.length) (hx : a.eval x = .slice A2 n c2) (h2 : IntsIn w B2 A2 ys) (hl : m + n ≤ 1000000) (hB : B ≤ w.heap.size)
    (h : ∀ A' c' w' qs, Hid (qs = xs ++ ys) → Hid (qs.length = m + n) → Hid (OwnInts w' B A' c' qs) → Hid (Below B w w') → wpList Try.prog ops Q rest (a.put o.dst (.slice A' qs.length c')) w') : wpList Try.prog ops Q (o :: rest) a w :=
  wpList_step fun K hK => by
    simp only [hw, if_true]
    exact wp_append_mem s x ho B A c m xs hm hs hown B2 A2 c2 n ys hn hx h2 hl hB fun A' c' w' qs h1 h2 h3 h4 => hK _ _ (h A' c' w' qs h1 h2 h3 h4)
theorem step_append_mem {ops : Array Oper} {o : Oper} {a : Act} {w : World} {K : Act → World → Prop} {Q : Exit → Act → World → Prop} {E : Prop} (hgd : o.guard = none) (s x : Operand)
    (ho : o.op = .call { callee := .builtin .append, args := #[s, x], argTypes := #[50, 50] })
    (B : Nat) (A : Option Addr) (c m : Nat) (xs : List Int) (hm : m = xs.length) (hs : a.eval s = .slice A m c) (hown : OwnInts w B A c xs)
    (B2 : Nat) (A2 : Option Addr) (c2 n : Nat) (ys : List Int) (hn : n = ys.length) (hx : a.eval x = .slice A2 n c2) (h2 : IntsIn w B2 A2 ys) (hl : m + n ≤ 1000000) (hB : B ≤ w.heap.size)
    (h : ∀ A' c' w' qs, Hid (qs = xs ++ ys) → Hid (qs.length = m + n) → Hid (OwnInts w' B A' c' qs) → Hid (Below B w w') → K (a.put o.dst (.slice A' qs.length c')) w') :
    if Region.wanted o (yielded ops a.tmps) = true then Oper.wp Try.prog o a w K Q else E := by
  have hw : Region.wanted o (yielded ops a.tmps) = true := by simp [Region.wanted, hgd]
  rw [if_pos hw]
  exact wp_append_mem s x ho B A c m xs hm hs hown B2 A2 c2 n ys hn hx h2 hl hB h
/-! ### integers just laid -/
theorem own_lit (w : World) (B b : Nat) (ns : List Int) (n : Nat) (hn : n = ns.length) (hb : b = w.heap.size) (hB : B ≤ b) (hm : n ≤ 1000) : OwnInts (w.alloc (.cells (ns.map (Value.int .i64)).toArray 3)) B (some ⟨b, 0, none⟩) n ns := by
  subst hn hb
  exact World.ownsRow_lit w (ns.map (Value.int .i64)).toArray ns.length hB (by unfold maxLen; omega) (by simp)
theorem in_lit (w : World) (b : Nat) (ns : List Int) (hb : b = w.heap.size) : IntsIn (w.alloc (.cells (ns.map (Value.int .i64)).toArray 3)) (b + 1) (some ⟨b, 0, none⟩) ns := fun h0 => by
  subst hb
  refine ⟨w.heap.size, 0, rfl, by omega, fun i hi => ?_⟩
  rw [cell_of_row _ _ _ _ _ _ (heap_alloc_new w _), Nat.zero_add]
  simp [hi, List.getD_eq_getElem?_getD]
theorem IntsIn.take {w : World} {B : Nat} {A : Option Addr} {xs : List Int} (h : IntsIn w B A xs) (k : Nat) : IntsIn w B A (xs.take k) := fun h0 => by
  rw [List.length_take] at h0
  obtain ⟨b, off, hA, hb, hc⟩ := h (by omega)
  refine ⟨b, off, hA, hb, fun i hi => ?_⟩
  rw [List.length_take] at hi
  have e : (xs.take k).getD i 0 = xs.getD i 0 := by
    rw [List.getD_eq_getElem?_getD, List.getElem?_take, if_pos (by omega), List.getD_eq_getElem?_getD]
  rw [e]
  exact hc i (by omega)
end Go.Proofs.Ytibnjbbiagjnjaa
