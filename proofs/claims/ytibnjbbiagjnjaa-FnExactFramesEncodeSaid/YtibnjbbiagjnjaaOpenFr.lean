/- An argument that is a frame, opened to its fields. No condition. -/
import Derived.Test.YtibnjbbiagjnjaaOpenRs
namespace Go.Proofs.Ytibnjbbiagjnjaa
open Go.ChangeShapes Go.WideShapes Go.Deep
section
variable {H : Type} {enc : TypeId × Value → H} {P : Program} {w : World} {base : Nat} {spare : Nat → Bool} {held : Bool}
/-- A struct of one-cell fields by value: its cells, each with its own reading. -/
theorem open_fields {r : Reach} {b0 : Nat} {t : TypeId} {fs : Array Field} {v : Value} {d : DataW H} {p : List MemPlace} (ht : P.underlying t = some (.struct fs)) (hone : oneCellFields P fs = true) (hC : P.cellsOf t = fs.size)
    (hv : Value.okWide P w r b0 t v) (h : DataW.Trod enc P w base spare held t v d p) :
    ∃ (cs : List Value) (n : Nat), v = .agg cs.toArray ∧ cs.length = fs.size ∧ ∀ (j : Nat) (f : Field), fs[j]? = some f → ∃ (u : Value) (y : DataW H × List MemPlace), cs[j]? = some u ∧ DataW.trod enc P w base spare held n f.type [u] = some y := by
  obtain ⟨cs, rfl, hsz⟩ := okWide_struct ht hv
  obtain ⟨l⟩ := cs
  have hl : l.length = fs.size := hsz.trans hC
  obtain ⟨fuel, hf⟩ := h
  obtain ⟨xs, n, _, _, _, hlen, hg⟩ := DataW.trod_struct ht hf
  refine ⟨l, n, rfl, hl, fun j f hj => ?_⟩
  obtain ⟨ho, hk⟩ := hone_of hone j f hj
  have hjl : j < fs.size := (Array.getElem?_eq_some_iff.1 hj).1
  have h1 := hg j f hj
  rw [ho, hk] at h1
  have hcells : (Value.agg l.toArray).cells.toList = l := rfl
  rw [hcells] at h1
  have h2 : (l.drop j).take 1 = [l[j]'(by omega)] := by
    rw [List.drop_eq_getElem_cons (by omega)]; rfl
  rw [h2] at h1
  have hx : xs[j]? = some (xs[j]'(by omega)) := List.getElem?_eq_getElem (by omega)
  exact ⟨_, _, List.getElem?_eq_getElem (by omega), h1.trans hx⟩
end
section
variable {H : Type} {enc : TypeId × Value → H} {w : World} {base : Nat} {spare : Nat → Bool} {held : Bool}
theorem open_fr {r : Reach} {b0 : Nat} {v : Value} {d : DataW H} {p : List MemPlace} (hv : Value.okWide Try.prog w r b0 43 v) (h : DataW.Trod enc Try.prog w base spare held 43 v d p) :
    ∃ (k a b c : Int) (s : ByteArray) (A : Option Addr) (len cap : Nat) (rs : List Rg), v = .agg #[.int .i64 k, .int .i64 a, .int .i64 b, .int .i64 c, .string s, .slice A len cap] ∧ rs.length = len ∧ RsIn w w.heap.size A rs ∧ len ≤ 9223372036854775807 ∧ s.size ≤ 9223372036854775807 := by
  obtain ⟨cs, n, rfl, hl, hf⟩ := open_fields Try.underlying43 (by kernel_rfl) (by kernel_rfl) hv h
  obtain ⟨u0, y0, c0, t0⟩ := hf 0 _ rfl
  obtain ⟨u1, y1, c1, t1⟩ := hf 1 _ rfl
  obtain ⟨u2, y2, c2, t2⟩ := hf 2 _ rfl
  obtain ⟨u3, y3, c3, t3⟩ := hf 3 _ rfl
  obtain ⟨u4, y4, c4, t4⟩ := hf 4 _ rfl
  obtain ⟨u5, y5, c5, t5⟩ := hf 5 _ rfl
  obtain ⟨k, e0, _, _⟩ := DataW.trod_int Try.underlying3 t0
  obtain ⟨a, e1, _, _⟩ := DataW.trod_int Try.underlying3 t1
  obtain ⟨b, e2, _, _⟩ := DataW.trod_int Try.underlying3 t2
  obtain ⟨c, e3, _, _⟩ := DataW.trod_int Try.underlying3 t3
  obtain ⟨s, e4, _, hs⟩ := DataW.trod_string Try.underlying9 t4
  have hr : ∃ (A : Option Addr) (len cap : Nat), u5 = .slice A len cap := by
    rcases open_slice_fields Try.underlying41 Try.underlying78 (by kernel_rfl) (by kernel_rfl) t5 with h0 | ⟨x, len, cap, h1, _⟩
    · simp only [List.cons.injEq, and_true] at h0
      exact ⟨none, 0, 0, h0⟩
    · simp only [List.cons.injEq, and_true] at h1
      exact ⟨_, _, _, h1⟩
  obtain ⟨A, len, cap, rfl⟩ := hr
  obtain ⟨hb, rs, h1, h2⟩ := open_rs (A := A) (len := len) (cap := cap) t5
  simp only [List.cons.injEq, and_true] at e0 e1 e2 e3 e4
  subst e0 e1 e2 e3 e4
  unfold maxLen at hs
  have hl6 : cs.length = 6 := hl
  match cs, hl6, c0, c1, c2, c3, c4, c5 with
  | [z0, z1, z2, z3, z4, z5], _, c0, c1, c2, c3, c4, c5 =>
    simp only [List.getElem?_cons_zero, List.getElem?_cons_succ, Option.some.injEq] at c0 c1 c2 c3 c4 c5
    subst c0 c1 c2 c3 c4 c5
    exact ⟨k, a, b, c, s, A, len, cap, rs, rfl, h1, h2, hb, hs⟩
end
end Go.Proofs.Ytibnjbbiagjnjaa
