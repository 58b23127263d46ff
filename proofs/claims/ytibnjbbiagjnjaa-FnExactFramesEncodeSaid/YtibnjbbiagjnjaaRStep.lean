/- The append of ranges at a step of a region that draws its order. No condition beyond those in the theorem. -/
import Derived.Test.YtibnjbbiagjnjaaRng
import Derived.Deep.RegionHeld3
import Derived.Deep.RegionHeldLaw
import Derived.Lib.Hide
namespace Go.Proofs.Ytibnjbbiagjnjaa
open Go.RowKit
theorem step_append_rs {ops : Array Oper} {o : Oper} {a : Act} {w : World} {K : Act → World → Prop} {Q : Exit → Act → World → Prop} {E : Prop} (hgd : o.guard = none) (s x : Operand)
    (ho : o.op = .call { callee := .builtin .append, args := #[s, x], argTypes := #[23, 23] })
    (B : Nat) (A : Option Addr) (c : Nat) (rs : List Rg) (hs : a.eval s = .slice A rs.length c) (hown : OwnRs w B A c rs)
    (B2 : Nat) (A2 : Option Addr) (c2 : Nat) (ts : List Rg) (hx : a.eval x = .slice A2 ts.length c2) (h2 : RsIn w B2 A2 ts) (hl : rs.length + ts.length ≤ 1000000000) (hB : B ≤ w.heap.size)
    (h : ∀ A' c' w', AppRs w B A c rs.length (rs ++ ts) A' c' w' → K (a.put o.dst (.slice A' (rs ++ ts).length c')) w') :
    if Region.wanted o (yielded ops a.tmps) = true then Oper.wp Try.prog o a w K Q else E := by
  have hw : Region.wanted o (yielded ops a.tmps) = true := by simp [Region.wanted, hgd]
  rw [if_pos hw]
  exact wp_append_rs s x ho B A c rs hs hown B2 A2 c2 ts hx h2 hl hB h
/-- The same two laws; the list behind the append is a letter. -/
theorem wpList_append_rq {ops : Array Oper} {rest : List Oper} {o : Oper} {a : Act} {w : World} {Q : Exit → Act → World → Prop} (hw : Region.wanted o (yielded ops a.tmps) = true) (s x : Operand)
    (ho : o.op = .call { callee := .builtin .append, args := #[s, x], argTypes := #[23, 23] })
    (B : Nat) (A : Option Addr) (c : Nat) (rs : List Rg) (hs : a.eval s = .slice A rs.length c) (hown : OwnRs w B A c rs)
    (B2 : Nat) (A2 : Option Addr) (c2 : Nat) (ts : List Rg) (hx : a.eval x = .slice A2 ts.length c2) (h2 : RsIn w B2 A2 ts) (hl : rs.length + ts.length ≤ 1000000000) (hB : B ≤ w.heap.size)
    (h : ∀ A' c' w' qs, Hid (qs = rs ++ ts) → Hid (qs.length = rs.length + ts.length) → AppRs w B A c rs.length qs A' c' w' → wpList Try.prog ops Q rest (a.put o.dst (.slice A' qs.length c')) w') : wpList Try.prog ops Q (o :: rest) a w :=
  wpList_append_rs hw s x ho B A c rs hs hown B2 A2 c2 ts hx h2 hl hB fun A' c' w' h3 => h A' c' w' _ rfl List.length_append h3
theorem step_append_rq {ops : Array Oper} {o : Oper} {a : Act} {w : World} {K : Act → World → Prop} {Q : Exit → Act → World → Prop} {E : Prop} (hgd : o.guard = none) (s x : Operand)
    (ho : o.op = .call { callee := .builtin .append, args := #[s, x], argTypes := #[23, 23] })
    (B : Nat) (A : Option Addr) (c : Nat) (rs : List Rg) (hs : a.eval s = .slice A rs.length c) (hown : OwnRs w B A c rs)
    (B2 : Nat) (A2 : Option Addr) (c2 : Nat) (ts : List Rg) (hx : a.eval x = .slice A2 ts.length c2) (h2 : RsIn w B2 A2 ts) (hl : rs.length + ts.length ≤ 1000000000) (hB : B ≤ w.heap.size)
    (h : ∀ A' c' w' qs, Hid (qs = rs ++ ts) → Hid (qs.length = rs.length + ts.length) → AppRs w B A c rs.length qs A' c' w' → K (a.put o.dst (.slice A' qs.length c')) w') :
    if Region.wanted o (yielded ops a.tmps) = true then Oper.wp Try.prog o a w K Q else E :=
  step_append_rs hgd s x ho B A c rs hs hown B2 A2 c2 ts hx h2 hl hB fun A' c' w' h3 => h A' c' w' _ rfl List.length_append h3
/-- One range, in a new block of its own, appended. -/
theorem wpList_append_one {ops : Array Oper} {rest : List Oper} {o : Oper} {a : Act} {w0 : World} {x y : Int} {Q : Exit → Act → World → Prop} (hw : Region.wanted o (yielded ops a.tmps) = true) (s xo : Operand)
    (ho : o.op = .call { callee := .builtin .append, args := #[s, xo], argTypes := #[23, 23] })
    (B : Nat) (A : Option Addr) (c : Nat) (rs : List Rg) (hs : a.eval s = .slice A rs.length c) (hown : OwnRs w0 B A c rs)
    (b : Nat) (hx : a.eval xo = .slice (some ⟨b, 0, none⟩) 1 1) (hb : b = w0.heap.size) (hl : rs.length + 1 ≤ 1000000000) (hB : B ≤ w0.heap.size)
    (h : ∀ A' c' w' qs, Hid (qs = rs ++ [(x, y)]) → Hid (qs.length = rs.length + 1) → Hid (OwnRs w' B A' c' qs) → Hid (Below B w0 w') → Hid ((w0.alloc (.cells #[.int .i64 x, .int .i64 y] 53)).grownBy w' (Value.slice A rs.length c).ownBlock) → wpList Try.prog ops Q rest (a.put o.dst (.slice A' qs.length c')) w') :
    wpList Try.prog ops Q (o :: rest) a (w0.alloc (.cells #[.int .i64 x, .int .i64 y] 53)) :=
  wpList_append_rs hw s xo ho B A c rs hs (hown.alloc _) _ _ _ [(x, y)] hx (one_in w0 x y b hb) hl (((Below.refl B w0).alloc hB (.cells #[.int .i64 x, .int .i64 y] 53)).size |> Nat.le_trans hB) fun A' c' w' h3 => h A' c' w' _ rfl List.length_append h3.1 (((Below.refl B w0).alloc hB _).trans h3.2.1) h3.2.2
theorem step_append_one {ops : Array Oper} {o : Oper} {a : Act} {w0 : World} {x y : Int} {K : Act → World → Prop} {Q : Exit → Act → World → Prop} {E : Prop} (hgd : o.guard = none) (s xo : Operand)
    (ho : o.op = .call { callee := .builtin .append, args := #[s, xo], argTypes := #[23, 23] })
    (B : Nat) (A : Option Addr) (c : Nat) (rs : List Rg) (hs : a.eval s = .slice A rs.length c) (hown : OwnRs w0 B A c rs)
    (b : Nat) (hx : a.eval xo = .slice (some ⟨b, 0, none⟩) 1 1) (hb : b = w0.heap.size) (hl : rs.length + 1 ≤ 1000000000) (hB : B ≤ w0.heap.size)
    (h : ∀ A' c' w' qs, Hid (qs = rs ++ [(x, y)]) → Hid (qs.length = rs.length + 1) → Hid (OwnRs w' B A' c' qs) → Hid (Below B w0 w') → Hid ((w0.alloc (.cells #[.int .i64 x, .int .i64 y] 53)).grownBy w' (Value.slice A rs.length c).ownBlock) → K (a.put o.dst (.slice A' qs.length c')) w') :
    if Region.wanted o (yielded ops a.tmps) = true then Oper.wp Try.prog o a (w0.alloc (.cells #[.int .i64 x, .int .i64 y] 53)) K Q else E :=
  step_append_rs hgd s xo ho B A c rs hs (hown.alloc _) _ _ _ [(x, y)] hx (one_in w0 x y b hb) hl (((Below.refl B w0).alloc hB (.cells #[.int .i64 x, .int .i64 y] 53)).size |> Nat.le_trans hB) fun A' c' w' h3 => h A' c' w' _ rfl List.length_append h3.1 (((Below.refl B w0).alloc hB _).trans h3.2.1) h3.2.2
theorem len1 (p : Rg) (n : Nat) (h : n + 1 ≤ 1000000000) : n + [p].length ≤ 1000000000 := h
end Go.Proofs.Ytibnjbbiagjnjaa
