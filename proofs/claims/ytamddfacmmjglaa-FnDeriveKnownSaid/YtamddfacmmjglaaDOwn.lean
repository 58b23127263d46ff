/- Slices of boxes that a call makes itself: what they own, how they grow. No condition but bounds on lengths. -/
import Derived.Test.YtamddfacmmjglaaDBoxes
namespace Go.Proofs.Ytamddfacmmjglaa
open Go.RowKit
set_option linter.unusedVariables false
theorem own_ne {w : World} {B B' : Nat} {e e' : TypeId} {s s' n n' : Nat} {v v' : Value} {xs xs' : List Value} (h : w.ownsRow B e s v n xs) (h' : w.ownsRow B' e' s' v' n' xs') (hne : e ≠ e') (k : Nat) (hk : v.ownBlock = some k) : v'.ownBlock ≠ some k := by
  intro hk'
  rcases h.2 with ⟨rfl, _⟩ | ⟨g, cap, cur, rfl, _, hh, _⟩
  · simp [Value.ownBlock] at hk
  · rcases h'.2 with ⟨rfl, _⟩ | ⟨g', cap', cur', rfl, _, hh', _⟩
    · simp [Value.ownBlock] at hk'
    · simp only [Value.ownBlock, Option.some.injEq] at hk hk'
      rw [hk] at hh
      rw [hk', hh] at hh'
      injection hh' with h1
      injection h1 with _ h2
      exact hne h2
/-- The atoms of the i-th box, as the cells V of a row of boxes show them. -/
def BxCells (V : List Value) (P : Option Addr → Nat → List Int → Prop) (bs : List Bx) : Prop :=
  ∀ i, i < bs.length → ∃ Ai ci, V[i * 2]? = some (.int .i64 (bs.getD i ⟨0, []⟩).key) ∧ V[i * 2 + 1]? = some (.slice Ai (bs.getD i ⟨0, []⟩).ins.length ci) ∧ P Ai ci (bs.getD i ⟨0, []⟩).ins
theorem BxCells.nil (V : List Value) (P : Option Addr → Nat → List Int → Prop) : BxCells V P [] := fun i hi => absurd hi (by simp)
theorem BxCells.imp {V : List Value} {P Q : Option Addr → Nat → List Int → Prop} {bs : List Bx} (h : BxCells V P bs) (hpq : ∀ A c xs, P A c xs → Q A c xs) : BxCells V Q bs := fun i hi => by
  obtain ⟨Ai, ci, c1, c2, c3⟩ := h i hi
  exact ⟨Ai, ci, c1, c2, hpq _ _ _ c3⟩
theorem BxCells.append {V V' : List Value} {P : Option Addr → Nat → List Int → Prop} {bs ts : List Bx} (h : BxCells V P bs) (hV : V.length = bs.length * 2) (h' : BxCells V' P ts) : BxCells (V ++ V') P (bs ++ ts) := fun i hi => by
  by_cases hlt : i < bs.length
  · obtain ⟨Ai, ci, c1, c2, c3⟩ := h i hlt
    have e : (bs ++ ts).getD i ⟨0, []⟩ = bs.getD i ⟨0, []⟩ := by
      rw [List.getD_eq_getElem?_getD, List.getElem?_append_left hlt, List.getD_eq_getElem?_getD]
    rw [e]
    exact ⟨Ai, ci, by rw [List.getElem?_append_left (by omega)]; exact c1, by rw [List.getElem?_append_left (by omega)]; exact c2, c3⟩
  · rw [List.length_append] at hi
    obtain ⟨Ai, ci, c1, c2, c3⟩ := h' (i - bs.length) (by omega)
    have e : (bs ++ ts).getD i ⟨0, []⟩ = ts.getD (i - bs.length) ⟨0, []⟩ := by
      rw [List.getD_eq_getElem?_getD, List.getElem?_append_right (by omega), List.getD_eq_getElem?_getD]
    rw [e]
    exact ⟨Ai, ci, by rw [List.getElem?_append_right (by omega), hV, show i * 2 - bs.length * 2 = (i - bs.length) * 2 by omega]; exact c1, by rw [List.getElem?_append_right (by omega), hV, show i * 2 + 1 - bs.length * 2 = (i - bs.length) * 2 + 1 by omega]; exact c2, c3⟩
/-- The slice at A owns a row of boxes in a block from B on, their atoms likewise. -/
def OwnBx (w : World) (B : Nat) (A : Option Addr) (c : Nat) (bs : List Bx) : Prop :=
  ∃ V : List Value, w.ownsRow B 37 2 (.slice A bs.length c) bs.length V ∧ BxCells V (OwnInts w B) bs
/-- The slice at A owns a row of boxes in a block from B on; their atoms lie below B. -/
def RowBx (w : World) (B : Nat) (A : Option Addr) (c : Nat) (bs : List Bx) : Prop :=
  ∃ V : List Value, w.ownsRow B 37 2 (.slice A bs.length c) bs.length V ∧ BxCells V (fun Ai _ xs => IntsIn w B Ai xs) bs
theorem OwnBx.empty (w : World) (B : Nat) (hB : B ≤ w.heap.size) : OwnBx (w.alloc (.cells #[] 37)) B (some ⟨w.heap.size, 0, none⟩) 0 [] :=
  ⟨[], World.ownsRow_lit w #[] 0 hB (by unfold maxLen; omega) rfl, BxCells.nil _ _⟩
theorem RowBx.empty (w : World) (B : Nat) (hB : B ≤ w.heap.size) : RowBx (w.alloc (.cells #[] 37)) B (some ⟨w.heap.size, 0, none⟩) 0 [] :=
  ⟨[], World.ownsRow_lit w #[] 0 hB (by unfold maxLen; omega) rfl, BxCells.nil _ _⟩
theorem row_kept {w w' : World} {B : Nat} {e : TypeId} {s n : Nat} {v : Value} {xs : List Value} {row : Option Nat} (h : w.ownsRow B e s v n xs) (hg : w.grownBy w' row) (hr : ∀ k, row = some k → k < B) : w'.ownsRow B e s v n xs := by
  refine World.ownsRow.kept h hg ?_
  cases hb : v.ownBlock with
  | none => exact .inl rfl
  | some k => exact .inr fun e => by have h1 := (World.ownsRow.lt h k hb).1; have h2 := hr k e.symm; omega
theorem OwnBx.kept {w w' : World} {B : Nat} {A : Option Addr} {c : Nat} {bs : List Bx} {row : Option Nat} (h : OwnBx w B A c bs) (hg : w.grownBy w' row) (hr : ∀ k, row = some k → k < B) : OwnBx w' B A c bs := by
  obtain ⟨V, hV, hc⟩ := h
  exact ⟨V, row_kept hV hg hr, hc.imp fun _ _ _ h => h.kept hg hr⟩
theorem below_grown {w w' : World} (hb : Below w.heap.size w w') : w.grownBy w' none := ⟨hb.os, hb.tape, hb.output, hb.size, fun k hk _ => hb.block k hk⟩
theorem OwnBx.below {w w' : World} {B : Nat} {A : Option Addr} {c : Nat} {bs : List Bx} (h : OwnBx w B A c bs) (hb : Below w.heap.size w w') : OwnBx w' B A c bs := h.kept (below_grown hb) (by simp)
theorem OwnBx.alloc {w : World} {B : Nat} {A : Option Addr} {c : Nat} {bs : List Bx} (h : OwnBx w B A c bs) (o : Obj) : OwnBx (w.alloc o) B A c bs := h.kept (World.grownBy_alloc w o none) (by simp)
theorem row_mono {w : World} {B B' : Nat} {e : TypeId} {s n : Nat} {v : Value} {xs : List Value} (h : w.ownsRow B e s v n xs) (hB : B' ≤ B) : w.ownsRow B' e s v n xs := by
  refine ⟨h.1, ?_⟩
  rcases h.2 with h2 | ⟨g, cap, cur, h1, h2, h3⟩
  · exact .inl h2
  · exact .inr ⟨g, cap, cur, h1, by omega, h3⟩
theorem OwnBx.mono {w : World} {B B' : Nat} {A : Option Addr} {c : Nat} {bs : List Bx} (h : OwnBx w B A c bs) (hB : B' ≤ B) : OwnBx w B' A c bs := by
  obtain ⟨V, hV, hc⟩ := h
  exact ⟨V, row_mono hV hB, hc.imp fun _ _ _ h => h.mono hB⟩
theorem row_cap {w : World} {B : Nat} {e : TypeId} {s n : Nat} {A : Option Addr} {c : Nat} {xs : List Value} (h : w.ownsRow B e s (.slice A n c) n xs) : n ≤ c := by
  rcases h.2 with ⟨h1, h2⟩ | ⟨g, cap, cur, hv, _, _, h3, _⟩
  · injection h1; omega
  · injection hv; omega
theorem OwnBx.cap {w : World} {B : Nat} {A : Option Addr} {c : Nat} {bs : List Bx} (h : OwnBx w B A c bs) : bs.length ≤ c := by
  obtain ⟨V, hV, _⟩ := h
  exact row_cap hV
theorem row_cells {w : World} {B : Nat} {A : Option Addr} {c n : Nat} {V : List Value} (hV : w.ownsRow B 37 2 (.slice A n c) n V) (h0 : 0 < n) : ∃ g, A = some ⟨g, 0, none⟩ ∧ B ≤ g ∧ g < w.heap.size ∧ ∀ j u, V[j]? = some u → w.cell? ⟨g, j, none⟩ = some u := by
  rcases hV.2 with ⟨_, h1⟩ | ⟨g, cap, cur, hv, hB, hh, r⟩
  · omega
  · injection hv with hA _ hc
    subst hA
    refine ⟨g, rfl, hB, (World.ownsRow.lt hV g rfl).2, fun j u hj => ?_⟩
    have := World.ownsRow.cells hV (g := g) rfl j u hj
    have ha : (⟨g, 0, none⟩ : Addr).add j = ⟨g, j, none⟩ := by
      unfold Addr.add; by_cases h0 : j = 0 <;> simp [h0]
    rw [ha] at this
    exact this
theorem OwnBx.in_ {w : World} {B : Nat} {A : Option Addr} {c : Nat} {bs : List Bx} (h : OwnBx w B A c bs) : BxIn w w.heap.size A bs := fun h0 => by
  obtain ⟨V, hV, hc⟩ := h
  obtain ⟨g, rfl, _, hg, hcell⟩ := row_cells hV h0
  refine ⟨g, 0, rfl, hg, fun i hi => ?_⟩
  obtain ⟨Ai, ci, c1, c2, c3⟩ := hc i hi
  exact ⟨Ai, ci, by rw [Nat.zero_add]; exact hcell _ _ c1, by rw [Nat.zero_add]; exact hcell _ _ c2, c3.asIn⟩
theorem RowBx.in_ {w : World} {B : Nat} {A : Option Addr} {c : Nat} {bs : List Bx} (h : RowBx w B A c bs) (hB : B ≤ w.heap.size) : BxIn w w.heap.size A bs := fun h0 => by
  obtain ⟨V, hV, hc⟩ := h
  obtain ⟨g, rfl, _, hg, hcell⟩ := row_cells hV h0
  refine ⟨g, 0, rfl, hg, fun i hi => ?_⟩
  obtain ⟨Ai, ci, c1, c2, c3⟩ := hc i hi
  exact ⟨Ai, ci, by rw [Nat.zero_add]; exact hcell _ _ c1, by rw [Nat.zero_add]; exact hcell _ _ c2, c3.mono hB⟩
/-! ### 'append' -/
/-- The cells of the boxes at A, all of them new to a row. -/
def NewBx (w : World) (A : Option Addr) (P : Option Addr → Nat → List Int → Prop) (ts : List Bx) : Prop :=
  0 < ts.length → ∃ b off, A = some ⟨b, off, none⟩ ∧ ∀ i, i < ts.length → ∃ Ai ci, w.cell? ⟨b, off + i * 2, none⟩ = some (.int .i64 (ts.getD i ⟨0, []⟩).key) ∧
    w.cell? ⟨b, off + i * 2 + 1, none⟩ = some (.slice Ai (ts.getD i ⟨0, []⟩).ins.length ci) ∧ P Ai ci (ts.getD i ⟨0, []⟩).ins
theorem NewBx.imp {w : World} {A : Option Addr} {P Q : Option Addr → Nat → List Int → Prop} {ts : List Bx} (h : NewBx w A P ts) (hpq : ∀ A c xs, P A c xs → Q A c xs) : NewBx w A Q ts := fun h0 => by
  obtain ⟨b, off, hA, hc⟩ := h h0
  refine ⟨b, off, hA, fun i hi => ?_⟩
  obtain ⟨Ai, ci, c1, c2, c3⟩ := hc i hi
  exact ⟨Ai, ci, c1, c2, hpq _ _ _ c3⟩
theorem BxIn.new {w : World} {B : Nat} {A : Option Addr} {ts : List Bx} (h : BxIn w B A ts) : NewBx w A (fun Ai _ xs => IntsIn w B Ai xs) ts := fun h0 => by
  obtain ⟨b, off, hA, _, hc⟩ := h h0
  exact ⟨b, off, hA, hc⟩
theorem new_list {w : World} {b off : Nat} {P : Option Addr → Nat → List Int → Prop} {ts : List Bx} (h : NewBx w (some ⟨b, off, none⟩) P ts) :
    ∃ V : List Value, V.length = ts.length * 2 ∧ (∀ j u, V[j]? = some u → w.cell? ⟨b, off + j, none⟩ = some u) ∧ (∀ u ∈ V, u.oneCell' = true) ∧ BxCells V P ts := by
  induction ts generalizing off with
  | nil => exact ⟨[], rfl, by simp, by simp, BxCells.nil _ _⟩
  | cons t ts ih =>
    obtain ⟨b', off', hA, hc⟩ := h (by simp)
    injection hA with hA
    injection hA with h1 h2 _
    subst h1 h2
    obtain ⟨V, v1, v2, v3, v4⟩ := ih (off := off + 2) (fun h0 => ⟨b, off + 2, rfl, fun i hi => by
      have := hc (i + 1) (by simp; omega)
      rw [show off + (i + 1) * 2 = off + 2 + i * 2 by omega] at this
      exact this⟩)
    obtain ⟨Ai, ci, c1, c2, c3⟩ := hc 0 (by simp)
    refine ⟨.int .i64 t.key :: .slice Ai t.ins.length ci :: V, by simp [v1]; omega, ?_, ?_, ?_⟩
    · intro j u hj
      match j, hj with
      | 0, hj => simp at hj; subst hj; simpa using c1
      | 1, hj => simp at hj; subst hj; simpa using c2
      | j + 2, hj =>
        have := v2 j u (by simpa using hj)
        rw [show off + (j + 2) = off + 2 + j by omega]; exact this
    · intro u hu
      simp only [List.mem_cons] at hu
      rcases hu with rfl | rfl | hu
      · rfl
      · rfl
      · exact v3 u hu
    · intro i hi
      cases i with
      | zero => exact ⟨Ai, ci, rfl, rfl, c3⟩
      | succ i =>
        obtain ⟨Aj, cj, d1, d2, d3⟩ := v4 i (by simpa using hi)
        refine ⟨Aj, cj, ?_, ?_, d3⟩
        · rw [show (i + 1) * 2 = i * 2 + 1 + 1 by omega]; exact d1
        · rw [show (i + 1) * 2 + 1 = i * 2 + 1 + 1 + 1 by omega]; exact d2
theorem run_append_bs {w : World} {B : Nat} {A : Option Addr} {c n : Nat} {V : List Value} (hown : w.ownsRow B 37 2 (.slice A n c) n V) (A2 : Option Addr) (c2 : Nat) (P : Option Addr → Nat → List Int → Prop) (ts : List Bx) (h2 : NewBx w A2 P ts) (hl : n + ts.length ≤ 1000000000) (hB : B ≤ w.heap.size) (ty : TypeId) :
    ∃ A' c' w' V', (Builtin.append_ #[25, 25] ty #[.slice A n c, .slice A2 ts.length c2]).run Try.prog w = .ok (.slice A' (n + ts.length) c') w' ∧ w'.ownsRow B 37 2 (.slice A' (n + ts.length) c') (n + ts.length) (V ++ V') ∧ BxCells V' P ts ∧ w.grownBy w' (Value.slice A n c).ownBlock := by
  obtain ⟨i, hi, hz, h1, h3⟩ := info_parts box_info
  cases A2 with
  | none =>
    have hy : ts = [] := by
      cases ts with
      | nil => rfl
      | cons y ys => obtain ⟨_, _, h, _⟩ := h2 (by simp); cases h
    subst hy
    refine ⟨A, c, w, [], ?_, by simpa using hown, BxCells.nil _ _, World.grownBy.refl w _⟩
    rcases hown.2 with ⟨e1, e2⟩ | ⟨g, cap, cur, e1, _, _, hnc, _⟩
    · injection e1 with e3 _ e4
      subst e3 e2 e4
      simp [Builtin.append_, run_underlying Try.underlying25, sizeOf, typeInfo, hi, Builtin.lenOf, Builtin.firstCells]
    · injection e1 with e3 _ e4
      subst e3 e4
      simp [Builtin.append_, run_underlying Try.underlying25, sizeOf, typeInfo, hi, Builtin.lenOf, Builtin.firstCells, hnc, storeCells]
  | some ad =>
    by_cases h0 : ts.length = 0
    · have hy : ts = [] := List.eq_nil_of_length_eq_zero h0
      subst hy
      obtain ⟨v', w', hrun, ho, hg, _⟩ := run_append_own (P := Try.prog) w B 25 ty 37 i (.agg #[.int .i64 0, .slice none 0 0]) 2 32 Try.underlying25 hi hz h1 h3 rfl (by decide) _ n _ hown ad 0 c2 [] rfl (by simp) (by simp) (by unfold maxLen; simp at hl; omega) (by simp at hl; omega) hB
      obtain ⟨A', c', rfl⟩ := own_form ho
      exact ⟨A', c', w', [], hrun, ho, BxCells.nil _ _, hg⟩
    · obtain ⟨b, off, hA, _⟩ := h2 (by omega)
      injection hA with hA
      subst hA
      obtain ⟨V', v1, v2, v3, v4⟩ := new_list h2
      obtain ⟨v', w', hrun, ho, hg, _⟩ := run_append_own (P := Try.prog) w B 25 ty 37 i (.agg #[.int .i64 0, .slice none 0 0]) 2 32 Try.underlying25 hi hz h1 h3 rfl (by decide) _ n _ hown ⟨b, off, none⟩ ts.length c2 V' v1 (fun j u hj => by
        have e : (⟨b, off, none⟩ : Addr).add j = ⟨b, off + j, none⟩ := by
          unfold Addr.add; by_cases h0 : j = 0 <;> simp [h0]
        rw [e]; exact v2 j u hj) v3 (by unfold maxLen; omega) (by omega) hB
      obtain ⟨A', c', rfl⟩ := own_form ho
      exact ⟨A', c', w', V', hrun, ho, v4, hg⟩
theorem grown_kept {w w' : World} {A : Option Addr} {n c B : Nat} {V : List Value} (hV : w.ownsRow B 37 2 (.slice A n c) n V) (hg : w.grownBy w' (Value.slice A n c).ownBlock) {B2 : Nat} {Ai : Option Addr} {ci : Nat} {xs : List Int} (h : OwnInts w B2 Ai ci xs) : OwnInts w' B2 Ai ci xs := by
  refine World.ownsRow.kept h hg ?_
  cases hb : (Value.slice Ai xs.length ci).ownBlock with
  | none => exact .inl rfl
  | some k => exact .inr fun e => own_ne h hV (by decide) k hb e.symm
theorem own_back {w : World} {B : Nat} {A : Option Addr} {n c : Nat} {V : List Value} (hV : w.ownsRow B 37 2 (.slice A n c) n V) : ∀ k, (Value.slice A n c).ownBlock = some k → B ≤ k := fun k hk => (World.ownsRow.lt hV k hk).1
theorem run_append_own_bx {w : World} {B : Nat} {A : Option Addr} {c : Nat} {bs : List Bx} (hown : OwnBx w B A c bs) (A2 : Option Addr) (c2 : Nat) (ts : List Bx) (h2 : NewBx w A2 (OwnInts w B) ts) (hl : bs.length + ts.length ≤ 1000000000) (hB : B ≤ w.heap.size) (ty : TypeId) :
    ∃ A' c' w', (Builtin.append_ #[25, 25] ty #[.slice A bs.length c, .slice A2 ts.length c2]).run Try.prog w = .ok (.slice A' (bs ++ ts).length c') w' ∧ OwnBx w' B A' c' (bs ++ ts) ∧ Below B w w' ∧ w.grownBy w' (Value.slice A bs.length c).ownBlock := by
  obtain ⟨V, hV, hc⟩ := hown
  obtain ⟨A', c', w', V', hrun, ho, hc', hg⟩ := run_append_bs hV A2 c2 _ ts h2 hl hB ty
  have e : (bs ++ ts).length = bs.length + ts.length := by simp
  refine ⟨A', c', w', by rw [e]; exact hrun, ⟨V ++ V', by rw [e]; exact ho, BxCells.append (hc.imp fun _ _ _ h => grown_kept hV hg h) hV.1 (hc'.imp fun _ _ _ h => grown_kept hV hg h)⟩, (Below.refl _ _).grown hg hB (own_back hV), hg⟩
theorem run_append_row_bx {w : World} {B : Nat} {A : Option Addr} {c : Nat} {bs : List Bx} (hown : RowBx w B A c bs) (A2 : Option Addr) (c2 : Nat) (ts : List Bx) (h2 : NewBx w A2 (fun Ai _ xs => IntsIn w B Ai xs) ts) (hl : bs.length + ts.length ≤ 1000000000) (hB : B ≤ w.heap.size) (ty : TypeId) :
    ∃ A' c' w', (Builtin.append_ #[25, 25] ty #[.slice A bs.length c, .slice A2 ts.length c2]).run Try.prog w = .ok (.slice A' (bs ++ ts).length c') w' ∧ RowBx w' B A' c' (bs ++ ts) ∧ Below B w w' := by
  obtain ⟨V, hV, hc⟩ := hown
  obtain ⟨A', c', w', V', hrun, ho, hc', hg⟩ := run_append_bs hV A2 c2 _ ts h2 hl hB ty
  have e : (bs ++ ts).length = bs.length + ts.length := by simp
  have hb : Below B w w' := (Below.refl _ _).grown hg hB (own_back hV)
  exact ⟨A', c', w', by rw [e]; exact hrun, ⟨V ++ V', by rw [e]; exact ho, BxCells.append (hc.imp fun _ _ _ h => h.below hb) hV.1 (hc'.imp fun _ _ _ h => h.below hb)⟩, hb⟩
theorem wp_append_own_bx {o : Oper} {a : Act} {w : World} {K : Act → World → Prop} {Q : Exit → Act → World → Prop} (s x : Operand)
    (ho : o.op = .call { callee := .builtin .append, args := #[s, x], argTypes := #[25, 25] })
    (B : Nat) (A : Option Addr) (c : Nat) (bs : List Bx) (hs : a.eval s = .slice A bs.length c) (hown : OwnBx w B A c bs)
    (A2 : Option Addr) (c2 : Nat) (t : Bx) (hx : a.eval x = .slice A2 1 c2) (h2 : NewBx w A2 (OwnInts w B) [t]) (hl : bs.length ≤ 1000000) (hB : B ≤ w.heap.size)
    (h : ∀ A' c' w' qs, Hid (qs = bs ++ [t]) → Hid (qs.length = bs.length + 1) → Hid (OwnBx w' B A' c' qs) → Hid (Below B w w') → Hid (w.grownBy w' (Value.slice A bs.length c).ownBlock) → K (a.put o.dst (.slice A' qs.length c')) w') : o.wp Try.prog a w K Q := by
  obtain ⟨A', c', w', hrun, h3, h4, h5⟩ := run_append_own_bx hown A2 c2 [t] h2 (by simp; omega) hB o.type
  rw [List.length_singleton] at hrun
  unfold Oper.wp execOp
  simp only [ho, resolve, invoke, builtin, Sem.run_bind, Sem.run_pure, Result.andThen_ok, List.map_toArray, List.map_cons, List.map_nil, hs, hx, hrun]
  exact h A' c' w' _ rfl (by simp [Hid]) h3 h4 h5
theorem wp_append_row_bx {o : Oper} {a : Act} {w : World} {K : Act → World → Prop} {Q : Exit → Act → World → Prop} (s x : Operand)
    (ho : o.op = .call { callee := .builtin .append, args := #[s, x], argTypes := #[25, 25] })
    (B : Nat) (A : Option Addr) (c : Nat) (bs : List Bx) (hs : a.eval s = .slice A bs.length c) (hown : RowBx w B A c bs)
    (A2 : Option Addr) (c2 : Nat) (ts : List Bx) (n : Nat) (hn : ts.length = n) (hx : a.eval x = .slice A2 n c2) (h2 : NewBx w A2 (fun Ai _ xs => IntsIn w B Ai xs) ts) (hl : bs.length + n ≤ 1000000) (hB : B ≤ w.heap.size)
    (h : ∀ A' c' w' qs, Hid (qs = bs ++ ts) → Hid (qs.length = bs.length + n) → Hid (RowBx w' B A' c' qs) → Hid (Below B w w') → K (a.put o.dst (.slice A' qs.length c')) w') : o.wp Try.prog a w K Q := by
  subst hn
  obtain ⟨A', c', w', hrun, h3, h4⟩ := run_append_row_bx hown A2 c2 ts h2 (by omega) hB o.type
  unfold Oper.wp execOp
  simp only [ho, resolve, invoke, builtin, Sem.run_bind, Sem.run_pure, Result.andThen_ok, List.map_toArray, List.map_cons, List.map_nil, hs, hx, hrun]
  exact h A' c' w' _ rfl (by simp [Hid]) h3 h4
end Go.Proofs.Ytamddfacmmjglaa
