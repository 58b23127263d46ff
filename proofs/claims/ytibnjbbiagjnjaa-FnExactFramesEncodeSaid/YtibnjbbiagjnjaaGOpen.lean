/- An argument that is a slice of frames, opened to its cells. No condition. -/
import Derived.Test.YtibnjbbiagjnjaaOpenFr
import Derived.Test.YtibnjbbiagjnjaaGFs
namespace Go.Proofs.Ytibnjbbiagjnjaa
open Go.ChangeShapes Go.WideShapes Go.Deep
instance : Inhabited Fv := ⟨fv0⟩
section
variable {H : Type} {enc : TypeId × Value → H} {w : World} {base : Nat} {spare : Nat → Bool} {held : Bool}
theorem addr_plus (b off i : Nat) : (⟨b, off, none⟩ : Addr).add i = ⟨b, off + i, none⟩ := by unfold Addr.add; by_cases hi : i = 0 <;> simp [hi]
theorem slice_form {v : Value} {fuel : Nat} {x : DataW H × List MemPlace} (h : DataW.trod enc Try.prog w base spare held fuel 41 [v] = some x) : ∃ (A : Option Addr) (len cap : Nat), v = .slice A len cap := by
  rcases open_slice_fields Try.underlying41 Try.underlying78 (by kernel_rfl) (by kernel_rfl) h with h0 | ⟨x, len, cap, h1, _⟩
  · simp only [List.cons.injEq, and_true] at h0
    exact ⟨none, 0, 0, h0⟩
  · simp only [List.cons.injEq, and_true] at h1
    exact ⟨_, _, _, h1⟩
/-- What the i-th frame of a slice at a is. -/
def FAt (w : World) (a : Addr) (i : Nat) (v : Fv) : Prop :=
  ∃ Ai ci, w.cell? (a.add (i * 6)) = some (.int .i64 v.k) ∧ w.cell? (a.add (i * 6 + 1)) = some (.int .i64 v.a) ∧ w.cell? (a.add (i * 6 + 2)) = some (.int .i64 v.b) ∧ w.cell? (a.add (i * 6 + 3)) = some (.int .i64 v.c) ∧
    w.cell? (a.add (i * 6 + 4)) = some (.string v.s) ∧ w.cell? (a.add (i * 6 + 5)) = some (.slice Ai v.rs.length ci) ∧ RsIn w w.heap.size Ai v.rs ∧ v.rs.length ≤ 9223372036854775807 ∧ v.s.size ≤ 9223372036854775807
theorem open_fs {A : Option Addr} {len cap : Nat} {fuel : Nat} {x : DataW H × List MemPlace} (h : DataW.trod enc Try.prog w base spare held fuel 30 (Value.slice A len cap).cells.toList = some x) :
    len ≤ 9223372036854775807 ∧ ∃ fs : List Fv, fs.length = len ∧ FsIn w w.heap.size A fs ∧ ∀ v ∈ fs, v.rs.length ≤ 9223372036854775807 ∧ v.s.size ≤ 9223372036854775807 := by
  have hcs : (Value.slice A len cap).cells.toList = [Value.slice A len cap] := rfl
  rw [hcs] at h
  rcases open_slice_fields Try.underlying30 Try.underlying43 (by kernel_rfl) (by kernel_rfl) h with h0 | ⟨a, l, c, h1, hl, hm, hi⟩
  · simp only [List.cons.injEq, and_true, Value.slice.injEq] at h0
    obtain ⟨rfl, rfl, rfl⟩ := h0
    exact ⟨by omega, [], rfl, FsIn.nil _ _ _, fun b hb => by cases hb⟩
  · simp only [List.cons.injEq, and_true, Value.slice.injEq] at h1
    obtain ⟨rfl, rfl, rfl⟩ := h1
    obtain ⟨f, hf⟩ := choose_lt (α := Fv) (n := len) (p := fun i v => FAt w a i v) (fun i hi' => by
      obtain ⟨n, hn⟩ := hi i hi'
      obtain ⟨u0, y0, c0, t0⟩ := hn 0 _ rfl
      obtain ⟨u1, y1, c1, t1⟩ := hn 1 _ rfl
      obtain ⟨u2, y2, c2, t2⟩ := hn 2 _ rfl
      obtain ⟨u3, y3, c3, t3⟩ := hn 3 _ rfl
      obtain ⟨u4, y4, c4, t4⟩ := hn 4 _ rfl
      obtain ⟨u5, y5, c5, t5⟩ := hn 5 _ rfl
      obtain ⟨k1, e0, _, _⟩ := DataW.trod_int Try.underlying3 t0
      obtain ⟨k2, e1, _, _⟩ := DataW.trod_int Try.underlying3 t1
      obtain ⟨k3, e2, _, _⟩ := DataW.trod_int Try.underlying3 t2
      obtain ⟨k4, e3, _, _⟩ := DataW.trod_int Try.underlying3 t3
      obtain ⟨s, e4, _, hs⟩ := DataW.trod_string Try.underlying9 t4
      obtain ⟨Ai, li, ci, rfl⟩ := slice_form t5
      obtain ⟨hb, rs, h1, h2⟩ := open_rs (A := Ai) (len := li) (cap := ci) t5
      simp only [List.cons.injEq, and_true] at e0 e1 e2 e3 e4
      subst e0 e1 e2 e3 e4 h1
      unfold maxLen at hs
      exact ⟨⟨k1, k2, k3, k4, s, rs⟩, Ai, ci, by simpa using c0, c1, c2, c3, c4, c5, h2, hb, hs⟩)
    unfold maxLen at hm
    refine ⟨by omega, (List.range len).map f, by simp, fun h0 => ?_, fun v hv => ?_⟩
    · simp only [List.length_map, List.length_range] at h0
      obtain ⟨b, off, spot⟩ := a
      obtain ⟨_, _, q0, _⟩ := hf 0 h0
      have hs : spot = none := by simpa [Addr.add] using World.cell?_spot q0
      subst hs
      rw [addr_plus] at q0
      refine ⟨b, off, rfl, World.block_lt_of_cell? w ⟨b, off + 0 * 6, none⟩ q0, fun i hi' => ?_⟩
      simp only [List.length_map, List.length_range] at hi'
      have hd : ((List.range len).map f).getD i fv0 = f i := by
        rw [List.getD_eq_getElem?_getD, List.getElem?_map, List.getElem?_range hi']; rfl
      rw [hd]
      obtain ⟨Ai, ci, p0, p1, p2, p3, p4, p5, p6, _, _⟩ := hf i hi'
      rw [addr_plus] at p0 p1 p2 p3 p4 p5
      refine ⟨Ai, ci, fun j u hj => ?_, p6⟩
      match j, hj with
      | 0, hj => simp [vcells] at hj; subst hj; exact p0
      | 1, hj => simp [vcells] at hj; subst hj; rw [Nat.add_assoc]; exact p1
      | 2, hj => simp [vcells] at hj; subst hj; rw [Nat.add_assoc]; exact p2
      | 3, hj => simp [vcells] at hj; subst hj; rw [Nat.add_assoc]; exact p3
      | 4, hj => simp [vcells] at hj; subst hj; rw [Nat.add_assoc]; exact p4
      | 5, hj => simp [vcells] at hj; subst hj; rw [Nat.add_assoc]; exact p5
      | j + 6, hj => simp [vcells] at hj
    · rw [List.mem_map] at hv
      obtain ⟨i, hi', rfl⟩ := hv
      obtain ⟨_, _, _, _, _, _, _, _, _, q1, q2⟩ := hf i (List.mem_range.1 hi')
      exact ⟨q1, q2⟩
end
end Go.Proofs.Ytibnjbbiagjnjaa
