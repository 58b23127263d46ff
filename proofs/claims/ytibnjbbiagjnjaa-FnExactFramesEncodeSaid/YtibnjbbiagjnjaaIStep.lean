/- The append of integers that lie in a new block, at a step of a walk; the list behind it is a letter. No condition but a bound on the lengths. -/
import Derived.Test.YtibnjbbiagjnjaaInts
import Derived.Deep.RegionHeld3
import Derived.Deep.RegionHeldLaw
import Derived.Lib.Hide
namespace Go.Proofs.Ytibnjbbiagjnjaa
open Go.RowKit
theorem run_append_new {w0 : World} {B : Nat} {A : Option Addr} {c : Nat} {xs ys : List Int} {n b : Nat} (hown : OwnInts w0 B A c xs) (hn : n = ys.length) (hb : b = w0.heap.size) (hn1 : n ≤ 1000) (hl : xs.length ≤ 1000000) (hB : B ≤ w0.heap.size) (ty : TypeId) :
    ∃ A' c' w', (Builtin.append_ #[50, 50] ty #[.slice A xs.length c, .slice (some ⟨b, 0, none⟩) n n]).run Try.prog (w0.alloc (.cells (ys.map (Value.int .i64)).toArray 3)) = .ok (.slice A' (xs ++ ys).length c') w' ∧ OwnInts w' B A' c' (xs ++ ys) ∧ Below B w0 w' ∧ (w0.alloc (.cells (ys.map (Value.int .i64)).toArray 3)).grownBy w' (Value.slice A xs.length c).ownBlock := by
  obtain ⟨i0, hi, hz0, hz1, hz2⟩ := info_parts int_info
  subst hb hn
  have hB1 : Below B w0 (w0.alloc (.cells (ys.map (Value.int .i64)).toArray 3)) := (Below.refl B w0).alloc hB _
  obtain ⟨v', w', hrun, ho, hg, _⟩ := run_append_own (P := Try.prog) _ B 50 ty 3 i0 (.int .i64 0) 1 8 Try.underlying50 hi hz0 hz1 hz2 rfl (by decide) _ xs.length _ (World.ownsRow.alloc hown (.cells (ys.map (Value.int .i64)).toArray 3)) ⟨w0.heap.size, 0, none⟩ ys.length ys.length (ys.map (Value.int .i64)) (by simp) (fun j u hj => cell_lit w0 (ys.map (Value.int .i64)) 3 j u hj) (fun u hu => by
    obtain ⟨y, _, rfl⟩ := List.mem_map.1 hu
    rfl) (by unfold maxLen; omega) (by omega) (Nat.le_trans hB hB1.size)
  obtain ⟨A', c', rfl⟩ := own_form ho
  have e : (xs ++ ys).length = xs.length + ys.length := by simp
  refine ⟨A', c', w', by rw [hrun, e], ?_, hB1.trans ((Below.refl _ _).grown hg (Nat.le_trans hB hB1.size) (fun k hk => (World.ownsRow.lt hown k hk).1)), hg⟩
  unfold OwnInts
  rw [e, List.map_append]
  exact ho
theorem wp_append_new {o : Oper} {a : Act} {w0 : World} {K : Act → World → Prop} {Q : Exit → Act → World → Prop} (ys : List Int) (s x : Operand)
    (ho : o.op = .call { callee := .builtin .append, args := #[s, x], argTypes := #[50, 50] })
    (B : Nat) (A : Option Addr) (c : Nat) (xs : List Int) (hs : a.eval s = .slice A xs.length c) (hown : OwnInts w0 B A c xs)
    (b n : Nat) (hx : a.eval x = .slice (some ⟨b, 0, none⟩) n n) (hb : b = w0.heap.size) (hn : n = ys.length) (hn1 : n ≤ 1000) (hl : xs.length ≤ 1000000) (hB : B ≤ w0.heap.size)
    (h : ∀ A' c' w' qs, Hid (qs = xs ++ ys) → Hid (qs.length = xs.length + n) → Hid (OwnInts w' B A' c' qs) → Hid (Below B w0 w') → Hid ((w0.alloc (.cells (ys.map (Value.int .i64)).toArray 3)).grownBy w' (Value.slice A xs.length c).ownBlock) → K (a.put o.dst (.slice A' qs.length c')) w') :
    o.wp Try.prog a (w0.alloc (.cells (ys.map (Value.int .i64)).toArray 3)) K Q := by
  obtain ⟨A', c', w', hrun, h3, h4, h5⟩ := run_append_new (ys := ys) hown hn hb hn1 hl hB o.type
  unfold Oper.wp execOp
  simp only [ho, resolve, invoke, builtin, Sem.run_bind, Sem.run_pure, Result.andThen_ok, List.map_toArray, List.map_cons, List.map_nil, hs, hx, hrun]
  exact h A' c' w' _ rfl (by rw [hn]; exact List.length_append) h3 h4 h5
theorem wpList_append_new {ops : Array Oper} {rest : List Oper} {o : Oper} {a : Act} {w0 : World} {Q : Exit → Act → World → Prop} (ys : List Int) (hw : Region.wanted o (yielded ops a.tmps) = true) (s x : Operand)
    (ho : o.op = .call { callee := .builtin .append, args := #[s, x], argTypes := #[50, 50] })
    (B : Nat) (A : Option Addr) (c : Nat) (xs : List Int) (hs : a.eval s = .slice A xs.length c) (hown : OwnInts w0 B A c xs)
    (b n : Nat) (hx : a.eval x = .slice (some ⟨b, 0, none⟩) n n) (hb : b = w0.heap.size) (hn : n = ys.length) (hn1 : n ≤ 1000) (hl : xs.length ≤ 1000000) (hB : B ≤ w0.heap.size)
    (h : ∀ A' c' w' qs, Hid (qs = xs ++ ys) → Hid (qs.length = xs.length + n) → Hid (OwnInts w' B A' c' qs) → Hid (Below B w0 w') → Hid ((w0.alloc (.cells (ys.map (Value.int .i64)).toArray 3)).grownBy w' (Value.slice A xs.length c).ownBlock) → wpList Try.prog ops Q rest (a.put o.dst (.slice A' qs.length c')) w') :
    wpList Try.prog ops Q (o :: rest) a (w0.alloc (.cells (ys.map (Value.int .i64)).toArray 3)) :=
  wpList_step fun K hK => by
    simp only [hw, if_true]
    exact wp_append_new ys s x ho B A c xs hs hown b n hx hb hn hn1 hl hB fun A' c' w' qs h1 h2 h3 h4 h5 => hK _ _ (h A' c' w' qs h1 h2 h3 h4 h5)
theorem step_append_new {ops : Array Oper} {o : Oper} {a : Act} {w0 : World} {K : Act → World → Prop} {Q : Exit → Act → World → Prop} {E : Prop} (ys : List Int) (hgd : o.guard = none) (s x : Operand)
    (ho : o.op = .call { callee := .builtin .append, args := #[s, x], argTypes := #[50, 50] })
    (B : Nat) (A : Option Addr) (c : Nat) (xs : List Int) (hs : a.eval s = .slice A xs.length c) (hown : OwnInts w0 B A c xs)
    (b n : Nat) (hx : a.eval x = .slice (some ⟨b, 0, none⟩) n n) (hb : b = w0.heap.size) (hn : n = ys.length) (hn1 : n ≤ 1000) (hl : xs.length ≤ 1000000) (hB : B ≤ w0.heap.size)
    (h : ∀ A' c' w' qs, Hid (qs = xs ++ ys) → Hid (qs.length = xs.length + n) → Hid (OwnInts w' B A' c' qs) → Hid (Below B w0 w') → Hid ((w0.alloc (.cells (ys.map (Value.int .i64)).toArray 3)).grownBy w' (Value.slice A xs.length c).ownBlock) → K (a.put o.dst (.slice A' qs.length c')) w') :
    if Region.wanted o (yielded ops a.tmps) = true then Oper.wp Try.prog o a (w0.alloc (.cells (ys.map (Value.int .i64)).toArray 3)) K Q else E := by
  have hw : Region.wanted o (yielded ops a.tmps) = true := by simp [Region.wanted, hgd]
  rw [if_pos hw]
  exact wp_append_new ys s x ho B A c xs hs hown b n hx hb hn hn1 hl hB h
end Go.Proofs.Ytibnjbbiagjnjaa
