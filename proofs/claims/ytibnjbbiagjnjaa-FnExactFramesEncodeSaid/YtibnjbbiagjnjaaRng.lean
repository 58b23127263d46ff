/- Slices of ranges (structs of two integers): what they own, how they are read, how they grow. No condition beyond those in each theorem. -/
import Derived.Test.YtibnjbbiagjnjaaKit
import Derived.OwnWalk
import Derived.Deep.QuietTactic
import Derived.BigQuiet
import Derived.Deep.Draws
namespace Go.Proofs.Ytibnjbbiagjnjaa
open Go.RowKit
abbrev Rg := Int × Int
/-- The cells of a list of ranges. -/
def rcells : List Rg → List Value
  | [] => []
  | r :: rs => .int .i64 r.1 :: .int .i64 r.2 :: rcells rs
theorem rcells_length (rs : List Rg) : (rcells rs).length = rs.length * 2 := by
  induction rs with
  | nil => rfl
  | cons r rs ih => simp [rcells, ih]; omega
theorem rcells_append (rs ts : List Rg) : rcells (rs ++ ts) = rcells rs ++ rcells ts := by
  induction rs with
  | nil => rfl
  | cons r rs ih => simp [rcells, ih]
theorem rcells_at (rs : List Rg) : ∀ i, i < rs.length → (rcells rs)[i * 2]? = some (.int .i64 (rs.getD i (0, 0)).1) ∧ (rcells rs)[i * 2 + 1]? = some (.int .i64 (rs.getD i (0, 0)).2) := by
  induction rs with
  | nil => intro i h; simp at h
  | cons r rs ih =>
    intro i h
    cases i with
    | zero => exact ⟨rfl, rfl⟩
    | succ i =>
      have := ih i (by simpa using h)
      have e : (i + 1) * 2 = i * 2 + 2 := by omega
      rw [e]
      exact this
theorem rcells_one (rs : List Rg) : ∀ u ∈ rcells rs, u.oneCell' = true := by
  induction rs with
  | nil => intro u h; cases h
  | cons r rs ih =>
    intro u hu
    simp only [rcells, List.mem_cons] at hu
    rcases hu with rfl | rfl | hu
    · rfl
    · rfl
    · exact ih u hu
theorem rng_info : (Try.prog.info? 53).map (fun i => (i.zero, i.size, i.bytes)) = some (some (.agg #[.int .i64 0, .int .i64 0]), 2, 16) := by kernel_rfl

/-- The slice at A, as long as rs, reads as rs, in a block below B. -/
def RsIn (w : World) (B : Nat) (A : Option Addr) (rs : List Rg) : Prop :=
  0 < rs.length → ∃ b off, A = some ⟨b, off, none⟩ ∧ b < B ∧ ∀ i, i < rs.length → w.cell? ⟨b, off + i * 2, none⟩ = some (.int .i64 (rs.getD i (0, 0)).1) ∧ w.cell? ⟨b, off + i * 2 + 1, none⟩ = some (.int .i64 (rs.getD i (0, 0)).2)
theorem RsIn.below {w w' : World} {B : Nat} {A : Option Addr} {rs : List Rg} (h : RsIn w B A rs) (hb : Below B w w') : RsIn w' B A rs := fun h0 => by
  obtain ⟨b, off, hA, hlt, hc⟩ := h h0
  exact ⟨b, off, hA, hlt, fun i hi => ⟨(hb.cell (p := ⟨b, off + i * 2, none⟩) hlt).trans (hc i hi).1, (hb.cell (p := ⟨b, off + i * 2 + 1, none⟩) hlt).trans (hc i hi).2⟩⟩
theorem RsIn.mono {w : World} {B B' : Nat} {A : Option Addr} {rs : List Rg} (h : RsIn w B A rs) (hB : B ≤ B') : RsIn w B' A rs := fun h0 => by
  obtain ⟨b, off, hA, hlt, hc⟩ := h h0
  exact ⟨b, off, hA, by omega, hc⟩
theorem RsIn.nil (w : World) (B : Nat) (A : Option Addr) : RsIn w B A [] := fun h => absurd h (by simp)

/-- The slice value at A, as long as rs, owns the cells of rs, in a block from B on. -/
def OwnRs (w : World) (B : Nat) (A : Option Addr) (c : Nat) (rs : List Rg) : Prop := w.ownsRow B 53 2 (.slice A rs.length c) rs.length (rcells rs)
theorem OwnRs.nil (w : World) (B : Nat) : OwnRs w B none 0 [] := World.ownsRow_nil _ _ _ _
theorem own_form {w : World} {B : Nat} {e : TypeId} {size n : Nat} {v : Value} {xs : List Value} (h : w.ownsRow B e size v n xs) : ∃ A c, v = .slice A n c := by
  rcases h.2 with ⟨rfl, rfl⟩ | ⟨g, cap, cur, rfl, _⟩
  · exact ⟨none, 0, rfl⟩
  · exact ⟨_, _, rfl⟩
theorem OwnRs.empty (w : World) (B : Nat) (hB : B ≤ w.heap.size) : OwnRs (w.alloc (.cells #[] 53)) B (some ⟨w.heap.size, 0, none⟩) 0 [] :=
  World.ownsRow_lit w #[] 0 hB (by unfold maxLen; omega) rfl
theorem OwnRs.alloc {w : World} {B : Nat} {A : Option Addr} {c : Nat} {rs : List Rg} (h : OwnRs w B A c rs) (o : Obj) : OwnRs (w.alloc o) B A c rs := World.ownsRow.alloc h o
theorem OwnRs.block {w : World} {B : Nat} {A : Option Addr} {c : Nat} {rs : List Rg} (h : OwnRs w B A c rs) : ∀ k, (Value.slice A rs.length c).ownBlock = some k → B ≤ k ∧ k < w.heap.size := World.ownsRow.lt h
theorem OwnRs.kept {w w' : World} {B : Nat} {A : Option Addr} {c : Nat} {rs : List Rg} {row : Option Nat} (h : OwnRs w B A c rs) (hg : w.grownBy w' row) (hr : ∀ k, row = some k → k < B) : OwnRs w' B A c rs := by
  refine World.ownsRow.kept h hg ?_
  cases hb : (Value.slice A rs.length c).ownBlock with
  | none => exact .inl rfl
  | some k =>
    refine .inr fun e => ?_
    have h1 := (World.ownsRow.lt h k hb).1
    have h2 := hr k e.symm
    omega
theorem OwnRs.below {w w' : World} {B : Nat} {A : Option Addr} {c : Nat} {rs : List Rg} (h : OwnRs w B A c rs) (hb : Below w.heap.size w w') : OwnRs w' B A c rs :=
  World.ownsRow.kept h ⟨hb.os, hb.tape, hb.output, hb.size, fun k hk _ => hb.block k hk⟩ (row := none) (by
    cases hb : (Value.slice A rs.length c).ownBlock with
    | none => exact .inl rfl
    | some k => exact .inr (by simp))
theorem OwnRs.mono {w : World} {B B' : Nat} {A : Option Addr} {c : Nat} {rs : List Rg} (h : OwnRs w B A c rs) (hB : B' ≤ B) : OwnRs w B' A c rs := by
  refine ⟨h.1, ?_⟩
  rcases h.2 with h2 | ⟨g, cap, cur, h1, h2, h3⟩
  · exact .inl h2
  · exact .inr ⟨g, cap, cur, h1, by omega, h3⟩
theorem OwnRs.cell {w : World} {B : Nat} {A : Option Addr} {c : Nat} {rs : List Rg} (h : OwnRs w B A c rs) (hn : 0 < rs.length) :
    ∃ g, A = some ⟨g, 0, none⟩ ∧ B ≤ g ∧ g < w.heap.size ∧ ∀ i, i < rs.length → w.cell? ⟨g, i * 2, none⟩ = some (.int .i64 (rs.getD i (0, 0)).1) ∧ w.cell? ⟨g, i * 2 + 1, none⟩ = some (.int .i64 (rs.getD i (0, 0)).2) := by
  rcases h.2 with ⟨_, h0⟩ | ⟨g, cap, cur, hv, hB, hh, r⟩
  · omega
  · injection hv with hA _ hc
    subst hA
    have ha : ∀ j, (⟨g, 0, none⟩ : Addr).add j = ⟨g, j, none⟩ := by
      intro j; unfold Addr.add; by_cases h0 : j = 0 <;> simp [h0]
    refine ⟨g, rfl, hB, ?_, fun i hi => ?_⟩
    · rcases Nat.lt_or_ge g w.heap.size with hlt | hge
      · exact hlt
      · rw [Array.getElem?_eq_none hge] at hh; cases hh
    · have h1 := World.ownsRow.cells h (g := g) rfl (i * 2) _ (rcells_at rs i hi).1
      have h2 := World.ownsRow.cells h (g := g) rfl (i * 2 + 1) _ (rcells_at rs i hi).2
      rw [ha] at h1 h2
      exact ⟨h1, h2⟩
theorem OwnRs.in_ {w : World} {B : Nat} {A : Option Addr} {c : Nat} {rs : List Rg} (h : OwnRs w B A c rs) : RsIn w w.heap.size A rs := fun h0 => by
  obtain ⟨g, rfl, _, hg, hc⟩ := h.cell h0
  exact ⟨g, 0, rfl, hg, fun i hi => by rw [Nat.zero_add]; exact hc i hi⟩
/-- 'append(rs, ts...)' onto a row of the call's own, ts below B2 or in a new block. -/
theorem run_append_rs {w : World} {B : Nat} {A : Option Addr} {c : Nat} {rs : List Rg} (hown : OwnRs w B A c rs) (B2 : Nat) (A2 : Option Addr) (c2 : Nat) (ts : List Rg) (h2 : RsIn w B2 A2 ts) (hl : rs.length + ts.length ≤ 1000000000) (hB : B ≤ w.heap.size) (ty : TypeId) :
    ∃ A' c' w', (Builtin.append_ #[23, 23] ty #[.slice A rs.length c, .slice A2 ts.length c2]).run Try.prog w = .ok (.slice A' (rs ++ ts).length c') w' ∧ OwnRs w' B A' c' (rs ++ ts) ∧ w.grownBy w' (Value.slice A rs.length c).ownBlock := by
  obtain ⟨i, hi, hz, h1, h3⟩ := info_parts rng_info
  cases A2 with
  | none =>
    have hy : ts = [] := by
      cases ts with
      | nil => rfl
      | cons y ys => obtain ⟨_, _, h, _⟩ := h2 (by simp); cases h
    subst hy
    refine ⟨A, c, w, ?_, by simpa using hown, World.grownBy.refl w _⟩
    rcases hown.2 with ⟨e1, e2⟩ | ⟨g, cap, cur, e1, _, _, hnc, _⟩
    · simp only [List.append_nil, e1, List.length_nil]
      simp [Builtin.append_, run_underlying Try.underlying23, sizeOf, typeInfo, hi, Builtin.lenOf, Builtin.firstCells]
    · simp only [List.append_nil, e1, List.length_nil]
      simp [Builtin.append_, run_underlying Try.underlying23, sizeOf, typeInfo, hi, Builtin.lenOf, Builtin.firstCells, hnc, storeCells]
  | some ad =>
    obtain ⟨v', w', hrun, ho, hg, _⟩ := run_append_own (P := Try.prog) w B 23 ty 53 i (.agg #[.int .i64 0, .int .i64 0]) 2 16 Try.underlying23 hi hz h1 h3 rfl (by decide) _ rs.length _ hown ad ts.length c2 (rcells ts) (rcells_length ts) (fun j u hj => by
        have hj' : j < ts.length * 2 := by
          have := (List.getElem?_eq_some_iff.1 hj).1
          rwa [rcells_length] at this
        obtain ⟨b, off, hA, _, hc⟩ := h2 (by omega)
        injection hA with hA
        subst hA
        have e : (⟨b, off, none⟩ : Addr).add j = ⟨b, off + j, none⟩ := by
          unfold Addr.add; by_cases h0 : j = 0 <;> simp [h0]
        rw [e]
        have hk : j = j / 2 * 2 ∨ j = j / 2 * 2 + 1 := by omega
        have hlt : j / 2 < ts.length := by omega
        rcases hk with hk | hk
        · rw [hk] at hj ⊢
          rw [(rcells_at ts (j / 2) hlt).1] at hj
          rw [(hc (j / 2) hlt).1]; exact hj
        · rw [hk] at hj ⊢
          rw [(rcells_at ts (j / 2) hlt).2] at hj
          rw [← Nat.add_assoc, (hc (j / 2) hlt).2]; exact hj) (rcells_one ts) (by unfold maxLen; omega) (by omega) hB
    obtain ⟨A', c', rfl⟩ := own_form ho
    have e : (rs ++ ts).length = rs.length + ts.length := by simp
    refine ⟨A', c', w', by rw [hrun, e], ?_, hg⟩
    unfold OwnRs
    rw [e, rcells_append]
    exact ho
theorem wpList_when {P : Program} {ops : Array Oper} {Q : Exit → Act → World → Prop} {a : Act} {w : World} {rest : List Oper} {o : Oper} (hw : Region.wanted o (yielded ops a.tmps) = true)
    (h : ∀ K : Act → World → Prop, (∀ a w, wpList P ops Q rest a w → K a w) → o.wp P a w K Q) : wpList P ops Q (o :: rest) a w :=
  wpList_step fun K hK => by simp only [hw, if_true]; exact h K hK
/-- What holds of the world behind an append onto a row of the call's own. -/
def AppRs (w : World) (B : Nat) (A : Option Addr) (c n : Nat) (rs : List Rg) (A' : Option Addr) (c' : Nat) (w' : World) : Prop :=
  OwnRs w' B A' c' rs ∧ Below B w w' ∧ w.grownBy w' (Value.slice A n c).ownBlock
theorem wp_append_rs {o : Oper} {a : Act} {w : World} {K : Act → World → Prop} {Q : Exit → Act → World → Prop} (s x : Operand)
    (ho : o.op = .call { callee := .builtin .append, args := #[s, x], argTypes := #[23, 23] })
    (B : Nat) (A : Option Addr) (c : Nat) (rs : List Rg) (hs : a.eval s = .slice A rs.length c) (hown : OwnRs w B A c rs)
    (B2 : Nat) (A2 : Option Addr) (c2 : Nat) (ts : List Rg) (hx : a.eval x = .slice A2 ts.length c2) (h2 : RsIn w B2 A2 ts) (hl : rs.length + ts.length ≤ 1000000000) (hB : B ≤ w.heap.size)
    (h : ∀ A' c' w', AppRs w B A c rs.length (rs ++ ts) A' c' w' → K (a.put o.dst (.slice A' (rs ++ ts).length c')) w') : o.wp Try.prog a w K Q := by
  obtain ⟨A', c', w', hrun, h3, h4⟩ := run_append_rs hown B2 A2 c2 ts h2 hl hB o.type
  unfold Oper.wp execOp
  simp only [ho, resolve, invoke, builtin, Sem.run_bind, Sem.run_pure, Result.andThen_ok, List.map_toArray, List.map_cons, List.map_nil, hs, hx, hrun]
  exact h A' c' w' ⟨h3, (Below.refl _ _).grown h4 hB (fun k hk => (World.ownsRow.lt hown k hk).1), h4⟩
theorem wpList_append_rs {ops : Array Oper} {rest : List Oper} {o : Oper} {a : Act} {w : World} {Q : Exit → Act → World → Prop} (hw : Region.wanted o (yielded ops a.tmps) = true) (s x : Operand)
    (ho : o.op = .call { callee := .builtin .append, args := #[s, x], argTypes := #[23, 23] })
    (B : Nat) (A : Option Addr) (c : Nat) (rs : List Rg) (hs : a.eval s = .slice A rs.length c) (hown : OwnRs w B A c rs)
    (B2 : Nat) (A2 : Option Addr) (c2 : Nat) (ts : List Rg) (hx : a.eval x = .slice A2 ts.length c2) (h2 : RsIn w B2 A2 ts) (hl : rs.length + ts.length ≤ 1000000000) (hB : B ≤ w.heap.size)
    (h : ∀ A' c' w', AppRs w B A c rs.length (rs ++ ts) A' c' w' → wpList Try.prog ops Q rest (a.put o.dst (.slice A' (rs ++ ts).length c')) w') : wpList Try.prog ops Q (o :: rest) a w :=
  wpList_when hw fun _ hK => wp_append_rs s x ho B A c rs hs hown B2 A2 c2 ts hx h2 hl hB fun A' c' w' h3 => hK _ _ (h A' c' w' h3)
/-- One range in a new block of its own. -/
theorem one_in (w : World) (x y : Int) (b : Nat) (hb : b = w.heap.size) : RsIn (w.alloc (.cells #[.int .i64 x, .int .i64 y] 53)) (w.heap.size + 1) (some ⟨b, 0, none⟩) [(x, y)] := fun _ => by
  subst hb
  refine ⟨w.heap.size, 0, rfl, by omega, fun i hi => ?_⟩
  have : i = 0 := by simpa using hi
  subst this
  constructor
  · rw [cell_of_row _ _ _ _ _ _ (heap_alloc_new w _)]; rfl
  · rw [cell_of_row _ _ _ _ _ _ (heap_alloc_new w _)]; rfl
end Go.Proofs.Ytibnjbbiagjnjaa
