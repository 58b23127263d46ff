/- An argument that is a slice of boxes, opened to its cells. No condition. -/
import Derived.Test.YtamddfacmmjglaaDBox
import Derived.ProofKit
import Derived.OpenShut
import Derived.Deep.Slices
import Derived.Deep.Fields
import Derived.ChangeSame
namespace Go.Proofs.Ytamddfacmmjglaa
open Go.ChangeShapes Go.WideShapes Go.Deep
section
variable {H : Type} {enc : TypeId × Value → H} {P : Program} {w : World} {base : Nat} {spare : Nat → Bool} {held : Bool}
/-- A slice of structs of one-cell fields: each element's fields lie side by side, each with its own reading. -/
theorem open_slice_fields {t e : TypeId} {fs : Array Field} {fuel : Nat} {cs : List Value} {x : DataW H × List MemPlace} (ht : P.underlying t = some (.slice e)) (he : P.underlying e = some (.struct fs))
    (hone : oneCellFields P fs = true) (hC : P.cellsOf e = fs.size) (h : DataW.trod enc P w base spare held fuel t cs = some x) :
    (cs = [.slice none 0 0]) ∨
    ∃ (a : Addr) (len cap : Nat), cs = [.slice (some a) len cap] ∧ len ≤ cap ∧ cap ≤ maxLen ∧
      ∀ i, i < len → ∃ (n : Nat), ∀ (j : Nat) (f : Field), fs[j]? = some f → ∃ (v : Value) (y : DataW H × List MemPlace), w.cell? (a.add (i * fs.size + j)) = some v ∧ DataW.trod enc P w base spare held n f.type [v] = some y := by
  rcases open_slice ht h with h0 | ⟨a, len, cap, m, n, D, Pl, hcs, hb, hl, hm, hmm, hx, hi⟩
  · exact .inl h0.1
  · refine .inr ⟨a, len, cap, hcs, hl, hm, fun i him => ?_⟩
    obtain ⟨cs', hc, ht'⟩ := hi i (by rw [hmm]; split <;> omega)
    rw [hC] at hc
    obtain ⟨ys, n', hn', hy, hlen, hyl, hf⟩ := DataW.trod_struct he ht'
    obtain ⟨_, hcl, hat⟩ := World.cells?_some hc
    refine ⟨n', fun j f hj => ?_⟩
    obtain ⟨ho, hk⟩ := hone_of hone j f hj
    have hjl : j < fs.size := (Array.getElem?_eq_some_iff.1 hj).1
    have hcell := hat j hjl
    have hv : cs'[j]? = some (cs'[j]'(by omega)) := List.getElem?_eq_getElem (by omega)
    have h1 := hf j f hj
    rw [ho, hk] at h1
    have hone' : (cs'.drop j).take 1 = [cs'[j]'(by omega)] := by
      rw [List.drop_eq_getElem_cons (by omega)]
      rfl
    rw [hone'] at h1
    have hys : ys[j]? = some (ys[j]'(by omega)) := List.getElem?_eq_getElem (by omega)
    refine ⟨_, _, ?_, h1.trans hys⟩
    rw [← Go.Deep.add_add, hcell, hv]
end
section
variable {H : Type} {enc : TypeId × Value → H} {w : World} {base : Nat} {spare : Nat → Bool} {held : Bool}
theorem addr_add (b off i : Nat) : (⟨b, off, none⟩ : Addr).add i = ⟨b, off + i, none⟩ := by unfold Addr.add; by_cases hi : i = 0 <;> simp [hi]
theorem cell_below {b o : Nat} {v : Value} (h : w.cell? ⟨b, o, none⟩ = some v) : b < w.heap.size := World.block_lt_of_cell? w ⟨b, o, none⟩ h
theorem open_ints {v : Value} {fuel : Nat} {x : DataW H × List MemPlace} (h : DataW.trod enc Try.prog w base spare held fuel 30 [v] = some x) :
    ∃ (A : Option Addr) (xs : List Int) (cap : Nat), v = .slice A xs.length cap ∧ xs.length ≤ 9223372036854775807 ∧ IntsIn w w.heap.size A xs := by
  rcases open_slice1 Try.underlying30 (by kernel_rfl) h with h0 | ⟨a, len, cap, m, n, V, D, Pl, h1, hb, hl, hm, hmm, hx, hi⟩
  · have h1 := h0.1
    simp only [List.cons.injEq, and_true] at h1
    exact ⟨none, [], 0, h1, by simp, fun h0 => absurd h0 (by simp)⟩
  · simp only [List.cons.injEq, and_true] at h1
    unfold maxLen at hm
    have hlm : len ≤ m := by rw [hmm]; split <;> omega
    obtain ⟨f, hf⟩ := choose_lt (α := Int) (n := len) (p := fun i z => w.cell? (a.add i) = some (.int .i64 z)) (fun i hi' => by
      obtain ⟨c0, t0⟩ := hi i (by omega)
      obtain ⟨n0, e0, _, _⟩ := DataW.trod_int Try.underlying3 t0
      simp only [List.cons.injEq, and_true] at e0
      exact ⟨n0, by rw [c0, e0]⟩)
    refine ⟨some a, (List.range len).map f, cap, by rw [h1]; simp, by simp; omega, fun h0 => ?_⟩
    simp only [List.length_map, List.length_range] at h0
    obtain ⟨b, off, spot⟩ := a
    have hs : spot = none := by simpa [Addr.add] using World.cell?_spot (hf 0 h0)
    subst hs
    refine ⟨b, off, rfl, cell_below (by have := hf 0 h0; rw [addr_add] at this; exact this), fun i hi' => ?_⟩
    simp only [List.length_map, List.length_range] at hi'
    have hd : ((List.range len).map f).getD i 0 = f i := by
      rw [List.getD_eq_getElem?_getD, List.getElem?_map, List.getElem?_range hi']; rfl
    rw [hd, ← addr_add]
    exact hf i hi'
theorem open_bs {A : Option Addr} {len cap : Nat} {fuel : Nat} {x : DataW H × List MemPlace} (h : DataW.trod enc Try.prog w base spare held fuel 22 (Value.slice A len cap).cells.toList = some x) :
    len ≤ 9223372036854775807 ∧ ∃ bs : List Bx, bs.length = len ∧ BxIn w w.heap.size A bs ∧ ∀ b ∈ bs, b.ins.length ≤ 9223372036854775807 := by
  have hcs : (Value.slice A len cap).cells.toList = [Value.slice A len cap] := rfl
  rw [hcs] at h
  rcases open_slice_fields Try.underlying22 Try.underlying41 (by kernel_rfl) (by kernel_rfl) h with h0 | ⟨a, l, c, h1, hl, hm, hi⟩
  · simp only [List.cons.injEq, and_true, Value.slice.injEq] at h0
    obtain ⟨rfl, rfl, rfl⟩ := h0
    exact ⟨by omega, [], rfl, BxIn.nil _ _ _, fun b hb => by cases hb⟩
  · simp only [List.cons.injEq, and_true, Value.slice.injEq] at h1
    obtain ⟨rfl, rfl, rfl⟩ := h1
    obtain ⟨f, hf⟩ := choose_lt (α := Bx) (n := len) (p := fun i b => w.cell? (a.add (i * 2)) = some (.int .i64 b.key) ∧ b.ins.length ≤ 9223372036854775807 ∧ ∃ Ai ci, w.cell? (a.add (i * 2 + 1)) = some (.slice Ai b.ins.length ci) ∧ IntsIn w w.heap.size Ai b.ins) (fun i hi' => by
      obtain ⟨n, hn⟩ := hi i hi'
      obtain ⟨v0, y0, c0, t0⟩ := hn 0 _ rfl
      obtain ⟨v1, y1, c1, t1⟩ := hn 1 _ rfl
      obtain ⟨n0, e0, _, _⟩ := DataW.trod_int Try.underlying3 t0
      simp only [List.cons.injEq, and_true] at e0
      subst e0
      obtain ⟨Ai, xs, ci, e1, hx, hI⟩ := open_ints t1
      subst e1
      exact ⟨⟨n0, xs⟩, by simpa using c0, hx, Ai, ci, c1, hI⟩)
    unfold maxLen at hm
    refine ⟨by omega, (List.range len).map f, by simp, fun h0 => ?_, fun b hb => ?_⟩
    · simp only [List.length_map, List.length_range] at h0
      obtain ⟨b, off, spot⟩ := a
      have hs : spot = none := by simpa [Addr.add] using World.cell?_spot (hf 0 h0).1
      subst hs
      refine ⟨b, off, rfl, cell_below (by have := (hf 0 h0).1; rw [addr_add] at this; exact this), fun i hi' => ?_⟩
      simp only [List.length_map, List.length_range] at hi'
      have hd : ((List.range len).map f).getD i ⟨0, []⟩ = f i := by
        rw [List.getD_eq_getElem?_getD, List.getElem?_map, List.getElem?_range hi']; rfl
      rw [hd]
      obtain ⟨q1, _, Ai, ci, q2, q3⟩ := hf i hi'
      rw [addr_add] at q1 q2
      exact ⟨Ai, ci, q1, by rw [Nat.add_assoc]; exact q2, q3⟩
    · rw [List.mem_map] at hb
      obtain ⟨i, hi', rfl⟩ := hb
      exact (hf i (List.mem_range.1 hi')).2.1
end
end Go.Proofs.Ytamddfacmmjglaa
