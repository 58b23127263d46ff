/- Slices of frames that a call makes itself: what they own, how they grow by one. No condition but bounds on lengths. -/
import Derived.Test.YtibnjbbiagjnjaaGFs
import Derived.Test.YtibnjbbiagjnjaaFDraw2
namespace Go.Proofs.Ytibnjbbiagjnjaa
open Go.RowKit
set_option linter.unusedVariables false
theorem frm_info : (Try.prog.info? 25).map (fun i => (i.zero, i.size, i.bytes)) = some (some (.agg #[.int .i64 0, .int .i64 0, .int .i64 0, .int .i64 0, .string ⟨#[]⟩, .slice none 0 0]), 6, 72) := by kernel_rfl
theorem own_ne {w : World} {B B' : Nat} {e e' : TypeId} {s s' n n' : Nat} {v v' : Value} {xs xs' : List Value} (h : w.ownsRow B e s v n xs) (h' : w.ownsRow B' e' s' v' n' xs') (hne : e ≠ e') (k : Nat) (hk : v.ownBlock = some k) : v'.ownBlock ≠ some k := by
  intro hk'
  rcases h.2 with ⟨rfl, _⟩ | ⟨g, cap, cur, rfl, _, hh, _⟩
  · simp [Value.ownBlock] at hk
  · rcases h'.2 with ⟨rfl, _⟩ | ⟨g', cap', cur', rfl, _, hh', _⟩
    · simp [Value.ownBlock] at hk'
    · simp only [Value.ownBlock, Option.some.injEq] at hk hk'
      rw [hk] at hh
      rw [hk', hh] at hh'
      injection hh' with h1
      injection h1 with _ h2
      exact hne h2
/-- What turns only blocks of its own, or those of a row behind w1, leaves w1's blocks but r's. -/
theorem only_far {w1 w2 w3 : World} {row : Option Nat} {r : Nat} (h : w1.grownBy w2 (some r)) (k : w2.grownBy w3 row) (hr : ∀ g, row = some g → w1.heap.size ≤ g) : w1.grownBy w3 (some r) :=
  ⟨k.os.trans h.os, k.tape.trans h.tape, k.output.trans h.output, Nat.le_trans h.size k.size, fun i hi hne => (k.block i (Nat.lt_of_lt_of_le hi h.size) (fun e => by have := hr i e.symm; omega)).trans (h.block i hi hne)⟩
def FsCells (V : List Value) (P : Option Addr → Nat → List Rg → Prop) (fs : List Fv) : Prop :=
  ∀ i, i < fs.length → ∃ Ai ci, (∀ j u, (vcells (fs.getD i fv0) Ai ci)[j]? = some u → V[i * 6 + j]? = some u) ∧ P Ai ci (fs.getD i fv0).rs
theorem FsCells.nil (V : List Value) (P : Option Addr → Nat → List Rg → Prop) : FsCells V P [] := fun i hi => absurd hi (by simp)
theorem FsCells.imp {V : List Value} {P Q : Option Addr → Nat → List Rg → Prop} {fs : List Fv} (h : FsCells V P fs) (hpq : ∀ A c xs, P A c xs → Q A c xs) : FsCells V Q fs := fun i hi => by
  obtain ⟨Ai, ci, c1, c2⟩ := h i hi
  exact ⟨Ai, ci, c1, hpq _ _ _ c2⟩
theorem FsCells.snoc {V : List Value} {P : Option Addr → Nat → List Rg → Prop} {fs : List Fv} (h : FsCells V P fs) (hV : V.length = fs.length * 6) (v : Fv) (A : Option Addr) (c : Nat) (hP : P A c v.rs) : FsCells (V ++ vcells v A c) P (fs ++ [v]) := fun i hi => by
  by_cases hlt : i < fs.length
  · obtain ⟨Ai, ci, c1, c2⟩ := h i hlt
    have e : (fs ++ [v]).getD i fv0 = fs.getD i fv0 := by
      rw [List.getD_eq_getElem?_getD, List.getElem?_append_left hlt, List.getD_eq_getElem?_getD]
    rw [e]
    refine ⟨Ai, ci, fun j u hj => ?_, c2⟩
    have hj6 : j < 6 := (List.getElem?_eq_some_iff.1 hj).1
    rw [List.getElem?_append_left (by omega)]
    exact c1 j u hj
  · have hi' : i = fs.length := by rw [List.length_append, List.length_singleton] at hi; omega
    subst hi'
    have e : (fs ++ [v]).getD fs.length fv0 = v := by
      rw [List.getD_eq_getElem?_getD, List.getElem?_append_right (by omega)]; simp
    rw [e]
    refine ⟨A, c, fun j u hj => ?_, hP⟩
    rw [List.getElem?_append_right (by omega), hV, Nat.add_sub_cancel_left]
    exact hj
/-- The slice at A owns a row of frames in a block from B on, their ranges likewise. -/
def OwnFs (w : World) (B : Nat) (A : Option Addr) (c : Nat) (fs : List Fv) : Prop :=
  ∃ V : List Value, w.ownsRow B 25 6 (.slice A fs.length c) fs.length V ∧ FsCells V (OwnRs w B) fs
theorem OwnFs.empty (w : World) (B : Nat) (hB : B ≤ w.heap.size) : OwnFs (w.alloc (.cells #[] 25)) B (some ⟨w.heap.size, 0, none⟩) 0 [] :=
  ⟨[], World.ownsRow_lit w #[] 0 hB (by unfold maxLen; omega) rfl, FsCells.nil _ _⟩
theorem row_kept {w w' : World} {B : Nat} {e : TypeId} {s n : Nat} {v : Value} {xs : List Value} {row : Option Nat} (h : w.ownsRow B e s v n xs) (hg : w.grownBy w' row) (hr : ∀ k, row = some k → k < B) : w'.ownsRow B e s v n xs := by
  refine World.ownsRow.kept h hg ?_
  cases hb : v.ownBlock with
  | none => exact .inl rfl
  | some k => exact .inr fun e => by have h1 := (World.ownsRow.lt h k hb).1; have h2 := hr k e.symm; omega
theorem OwnFs.kept {w w' : World} {B : Nat} {A : Option Addr} {c : Nat} {fs : List Fv} {row : Option Nat} (h : OwnFs w B A c fs) (hg : w.grownBy w' row) (hr : ∀ k, row = some k → k < B) : OwnFs w' B A c fs := by
  obtain ⟨V, hV, hc⟩ := h
  exact ⟨V, row_kept hV hg hr, hc.imp fun _ _ _ h => h.kept hg hr⟩
theorem below_grown {w w' : World} (hb : Below w.heap.size w w') : w.grownBy w' none := ⟨hb.os, hb.tape, hb.output, hb.size, fun k hk _ => hb.block k hk⟩
theorem OwnFs.below {w w' : World} {B : Nat} {A : Option Addr} {c : Nat} {fs : List Fv} (h : OwnFs w B A c fs) (hb : Below w.heap.size w w') : OwnFs w' B A c fs := h.kept (below_grown hb) (by simp)
theorem OwnFs.alloc {w : World} {B : Nat} {A : Option Addr} {c : Nat} {fs : List Fv} (h : OwnFs w B A c fs) (o : Obj) : OwnFs (w.alloc o) B A c fs := h.kept (World.grownBy_alloc w o none) (by simp)
theorem row_mono {w : World} {B B' : Nat} {e : TypeId} {s n : Nat} {v : Value} {xs : List Value} (h : w.ownsRow B e s v n xs) (hB : B' ≤ B) : w.ownsRow B' e s v n xs := by
  refine ⟨h.1, ?_⟩
  rcases h.2 with h2 | ⟨g, cap, cur, h1, h2, h3⟩
  · exact .inl h2
  · exact .inr ⟨g, cap, cur, h1, by omega, h3⟩
theorem OwnFs.mono {w : World} {B B' : Nat} {A : Option Addr} {c : Nat} {fs : List Fv} (h : OwnFs w B A c fs) (hB : B' ≤ B) : OwnFs w B' A c fs := by
  obtain ⟨V, hV, hc⟩ := h
  exact ⟨V, row_mono hV hB, hc.imp fun _ _ _ h => h.mono hB⟩
theorem rowf_cells {w : World} {B : Nat} {A : Option Addr} {c n : Nat} {V : List Value} (hV : w.ownsRow B 25 6 (.slice A n c) n V) (h0 : 0 < n) : ∃ g, A = some ⟨g, 0, none⟩ ∧ B ≤ g ∧ g < w.heap.size ∧ ∀ j u, V[j]? = some u → w.cell? ⟨g, j, none⟩ = some u := by
  rcases hV.2 with ⟨_, h1⟩ | ⟨g, cap, cur, hv, hB, hh, r⟩
  · omega
  · injection hv with hA _ hc
    subst hA
    refine ⟨g, rfl, hB, (World.ownsRow.lt hV g rfl).2, fun j u hj => ?_⟩
    have := World.ownsRow.cells hV (g := g) rfl j u hj
    have ha : (⟨g, 0, none⟩ : Addr).add j = ⟨g, j, none⟩ := by
      unfold Addr.add; by_cases h0 : j = 0 <;> simp [h0]
    rw [ha] at this
    exact this
theorem OwnFs.in_ {w : World} {B : Nat} {A : Option Addr} {c : Nat} {fs : List Fv} (h : OwnFs w B A c fs) : FsIn w w.heap.size A fs := fun h0 => by
  obtain ⟨V, hV, hc⟩ := h
  obtain ⟨g, rfl, _, hg, hcell⟩ := rowf_cells hV h0
  refine ⟨g, 0, rfl, hg, fun i hi => ?_⟩
  obtain ⟨Ai, ci, c1, c2⟩ := hc i hi
  exact ⟨Ai, ci, fun j u hj => by rw [Nat.zero_add]; exact hcell _ _ (c1 j u hj), c2.in_⟩
theorem own_ffrom {w : World} {B : Nat} {A : Option Addr} {c : Nat} {fs : List Fv} (h : OwnFs w B A c fs) : ∀ k, (Value.slice A fs.length c).ownBlock = some k → B ≤ k := fun k hk => by
  obtain ⟨V, hV, _⟩ := h
  exact (World.ownsRow.lt hV k hk).1
theorem run_append_frm {w0 : World} {B : Nat} {A : Option Addr} {c : Nat} {fs : List Fv} (hown : OwnFs w0 B A c fs) (v : Fv) (Ai : Option Addr) (ci b : Nat) (hb : b = w0.heap.size) (hI : OwnRs w0 B Ai ci v.rs) (hl : fs.length ≤ 1000000) (hB : B ≤ w0.heap.size) (ty : TypeId) :
    ∃ A' c' w', (Builtin.append_ #[34, 34] ty #[.slice A fs.length c, .slice (some ⟨b, 0, none⟩) 1 1]).run Try.prog (w0.alloc (.cells (vcells v Ai ci).toArray 25)) = .ok (.slice A' (fs ++ [v]).length c') w' ∧ OwnFs w' B A' c' (fs ++ [v]) ∧ Below B w0 w' ∧ (w0.alloc (.cells (vcells v Ai ci).toArray 25)).grownBy w' (Value.slice A fs.length c).ownBlock := by
  obtain ⟨i, hi, hz, h1, h3⟩ := info_parts frm_info
  subst hb
  obtain ⟨V, hV, hc⟩ := hown
  have hB1 : Below B w0 (w0.alloc (.cells (vcells v Ai ci).toArray 25)) := (Below.refl B w0).alloc hB _
  have hV1 := World.ownsRow.alloc hV (.cells (vcells v Ai ci).toArray 25)
  obtain ⟨v', w', hrun, ho, hg, _⟩ := run_append_own (P := Try.prog) _ B 34 ty 25 i (.agg #[.int .i64 0, .int .i64 0, .int .i64 0, .int .i64 0, .string ⟨#[]⟩, .slice none 0 0]) 6 72 Try.underlying34 hi hz h1 h3 rfl (by decide) _ fs.length _ hV1 ⟨w0.heap.size, 0, none⟩ 1 1 (vcells v Ai ci) rfl (fun j u hj => cell_lit w0 (vcells v Ai ci) 25 j u hj) (fun u hu => by
    simp only [vcells, List.mem_cons, List.not_mem_nil, or_false] at hu
    rcases hu with rfl | rfl | rfl | rfl | rfl | rfl <;> rfl) (by unfold maxLen; omega) (by omega) (Nat.le_trans hB hB1.size)
  obtain ⟨A', c', rfl⟩ := own_form ho
  have e : (fs ++ [v]).length = fs.length + 1 := by simp
  have keep : ∀ {B2 : Nat} {Aj : Option Addr} {cj : Nat} {xs : List Rg}, OwnRs w0 B2 Aj cj xs → OwnRs w' B2 Aj cj xs := fun {B2 Aj cj xs} h => by
    have h1 : OwnRs (w0.alloc (.cells (vcells v Ai ci).toArray 25)) B2 Aj cj xs := h.alloc _
    refine World.ownsRow.kept h1 hg ?_
    cases hb : (Value.slice Aj xs.length cj).ownBlock with
    | none => exact .inl rfl
    | some k => exact .inr fun e => own_ne h1 hV1 (by decide) k hb e.symm
  refine ⟨A', c', w', by rw [hrun, e], ⟨V ++ vcells v Ai ci, by rw [e]; exact ho, FsCells.snoc (hc.imp fun _ _ _ h => keep h) hV.1 v Ai ci (keep hI)⟩, hB1.trans ((Below.refl _ _).grown hg (Nat.le_trans hB hB1.size) (fun k hk => (World.ownsRow.lt hV1 k hk).1)), hg⟩
theorem wpList_append_frm {ops : Array Oper} {rest : List Oper} {o : Oper} {a : Act} {w0 : World} {Q : Exit → Act → World → Prop} (hw : Region.wanted o (yielded ops a.tmps) = true) (sl x : Operand)
    (ho : o.op = .call { callee := .builtin .append, args := #[sl, x], argTypes := #[34, 34] })
    (B : Nat) (A : Option Addr) (c : Nat) (fs : List Fv) (hs : a.eval sl = .slice A fs.length c) (hown : OwnFs w0 B A c fs)
    (b : Nat) (k1 k2 k3 k4 : Int) (s : ByteArray) (Ai : Option Addr) (ci : Nat) (rs : List Rg) (hx : a.eval x = .slice (some ⟨b, 0, none⟩) 1 1) (hb : b = w0.heap.size) (hI : OwnRs w0 B Ai ci rs) (hl : fs.length ≤ 1000000) (hB : B ≤ w0.heap.size)
    (h : ∀ A' c' w' qs, Hid (qs = fs ++ [⟨k1, k2, k3, k4, s, rs⟩]) → Hid (qs.length = fs.length + 1) → Hid (OwnFs w' B A' c' qs) → Hid (Below B w0 w') → Hid ((w0.alloc (.cells #[.int .i64 k1, .int .i64 k2, .int .i64 k3, .int .i64 k4, .string s, .slice Ai rs.length ci] 25)).grownBy w' (Value.slice A fs.length c).ownBlock) → wpList Try.prog ops Q rest (a.put o.dst (.slice A' qs.length c')) w') :
    wpList Try.prog ops Q (o :: rest) a (w0.alloc (.cells #[.int .i64 k1, .int .i64 k2, .int .i64 k3, .int .i64 k4, .string s, .slice Ai rs.length ci] 25)) :=
  wpList_step fun K hK => by
    simp only [hw, if_true]
    obtain ⟨A', c', w', hrun, h3, h4, h5⟩ := run_append_frm hown ⟨k1, k2, k3, k4, s, rs⟩ Ai ci b hb hI hl hB o.type
    have hrun' : (Builtin.append_ #[34, 34] o.type #[.slice A fs.length c, .slice (some ⟨b, 0, none⟩) 1 1]).run Try.prog (w0.alloc (.cells #[.int .i64 k1, .int .i64 k2, .int .i64 k3, .int .i64 k4, .string s, .slice Ai rs.length ci] 25)) = .ok (.slice A' (fs ++ [(⟨k1, k2, k3, k4, s, rs⟩ : Fv)]).length c') w' := hrun
    unfold Oper.wp execOp
    simp only [ho, resolve, invoke, builtin, Sem.run_bind, Sem.run_pure, Result.andThen_ok, List.map_toArray, List.map_cons, List.map_nil, hs, hx, hrun']
    exact hK _ _ (h A' c' w' _ rfl (by simp [Hid]) h3 h4 h5)
end Go.Proofs.Ytibnjbbiagjnjaa
