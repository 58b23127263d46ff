/- Slices of integers that a call makes itself: what they own, how they grow by one, how they are read. No condition beyond those in each theorem. -/
import Derived.Test.YtibnjbbiagjnjaaKit
import Derived.OwnWalk
import Derived.Test.YtibnjbbiagjnjaaRng
namespace Go.Proofs.Ytibnjbbiagjnjaa
open Go.RowKit

/-- The slice value at A, as long as xs, owns the cells xs, in a block from B on. -/
def OwnInts (w : World) (B : Nat) (A : Option Addr) (c : Nat) (xs : List Int) : Prop := w.ownsRow B 3 1 (.slice A xs.length c) xs.length (xs.map (Value.int .i64))
theorem int_info : (Try.prog.info? 3).map (fun i => (i.zero, i.size, i.bytes)) = some (some (.int .i64 0), 1, 8) := by kernel_rfl
theorem OwnInts.nil (w : World) (B : Nat) : OwnInts w B none 0 [] := World.ownsRow_nil _ _ _ _
theorem OwnInts.alloc {w : World} {B : Nat} {A : Option Addr} {c : Nat} {xs : List Int} (h : OwnInts w B A c xs) (o : Obj) : OwnInts (w.alloc o) B A c xs := World.ownsRow.alloc h o
theorem OwnInts.mono {w : World} {B B' : Nat} {A : Option Addr} {c : Nat} {xs : List Int} (h : OwnInts w B A c xs) (hB : B' ≤ B) : OwnInts w B' A c xs := by
  refine ⟨h.1, ?_⟩
  rcases h.2 with h2 | ⟨g, cap, cur, h1, h2, h3⟩
  · exact .inl h2
  · exact .inr ⟨g, cap, cur, h1, by omega, h3⟩
/-- What grows elsewhere leaves it. -/
theorem OwnInts.kept {w w' : World} {B : Nat} {A : Option Addr} {c : Nat} {xs : List Int} {row : Option Nat} (h : OwnInts w B A c xs) (hg : w.grownBy w' row) (hr : ∀ k, row = some k → k < B) : OwnInts w' B A c xs := by
  refine World.ownsRow.kept h hg ?_
  cases hb : (Value.slice A xs.length c).ownBlock with
  | none => exact .inl rfl
  | some k =>
    refine .inr fun e => ?_
    have h1 := (World.ownsRow.lt h k hb).1
    have h2 := hr k e.symm
    omega
theorem OwnInts.below {w w' : World} {B : Nat} {A : Option Addr} {c : Nat} {xs : List Int} (h : OwnInts w B A c xs) (hb : Below w.heap.size w w') : OwnInts w' B A c xs :=
  World.ownsRow.kept h ⟨hb.os, hb.tape, hb.output, hb.size, fun k hk _ => hb.block k hk⟩ (row := none) (by
    cases hb : (Value.slice A xs.length c).ownBlock with
    | none => exact .inl rfl
    | some k => exact .inr (by simp))
/-- Its i-th cell. -/
theorem OwnInts.cell {w : World} {B : Nat} {A : Option Addr} {c : Nat} {xs : List Int} (h : OwnInts w B A c xs) (hn : 0 < xs.length) :
    ∃ g, A = some ⟨g, 0, none⟩ ∧ B ≤ g ∧ g < w.heap.size ∧ ∀ i, i < xs.length → w.cell? ⟨g, i, none⟩ = some (.int .i64 (xs.getD i 0)) := by
  rcases h.2 with ⟨_, h0⟩ | ⟨g, cap, cur, hv, hB, hh, r⟩
  · omega
  · injection hv with hA _ hc
    subst hA
    refine ⟨g, rfl, hB, ?_, fun i hi => ?_⟩
    · rcases Nat.lt_or_ge g w.heap.size with hlt | hge
      · exact hlt
      · rw [Array.getElem?_eq_none hge] at hh; cases hh
    · have := World.ownsRow.cells h (g := g) rfl i (.int .i64 (xs.getD i 0)) (by
        rw [List.getElem?_map, List.getElem?_eq_getElem hi, List.getD_eq_getElem?_getD, List.getElem?_eq_getElem hi]; rfl)
      have ha : (⟨g, 0, none⟩ : Addr).add i = ⟨g, i, none⟩ := by
        unfold Addr.add; by_cases h0 : i = 0 <;> simp [h0]
      rw [ha] at this
      exact this

/-- 'append(xs, y)' of one integer that lies in a new block of its own. -/
theorem wpList_append_int {ops : Array Oper} {rest : List Oper} {o : Oper} {a : Act} {w : World} {Q : Exit → Act → World → Prop} (hgd : o.guard = none) (s x : Operand)
    (ho : o.op = .call { callee := .builtin .append, args := #[s, x], argTypes := #[50, 50] })
    (B : Nat) (A : Option Addr) (c : Nat) (xs : List Int) (hs : a.eval s = .slice A xs.length c) (hown : OwnInts w B A c xs)
    (b : Nat) (y : Int) (hx : a.eval x = .slice (some ⟨b, 0, none⟩) 1 1) (hc : w.cell? ⟨b, 0, none⟩ = some (.int .i64 y)) (hl : xs.length ≤ 1000000000) (hB : B ≤ w.heap.size)
    (h : ∀ A' c' w', OwnInts w' B A' c' (xs ++ [y]) → w.grownBy w' (Value.slice A xs.length c).ownBlock → Below B w w' → wpList Try.prog ops Q rest (a.put o.dst (.slice A' (xs ++ [y]).length c')) w') : wpList Try.prog ops Q (o :: rest) a w := by
  obtain ⟨i0, hi, hz0, hz1, hz2⟩ := info_parts int_info
  refine wpList_append_own w hgd s x 50 ho B 3 i0 (.int .i64 0) 1 8 Try.underlying50 hi hz0 hz1 hz2 rfl (by decide) _ xs.length _ hs hown ⟨b, 0, none⟩ 1 1 [.int .i64 y] hx rfl ?_ ?_ ?_ ?_ hB ?_
  · intro j u hj
    match j, hj with
    | 0, hj => simp at hj; subst hj; simpa [Addr.add] using hc
  · intro u hu; simp at hu; subst hu; rfl
  · unfold maxLen; omega
  · omega
  · intro v' w' hown' hg _
    obtain ⟨A', c', rfl⟩ := own_form hown'
    have e : (xs ++ [y]).length = xs.length + 1 := by simp
    have hk : ∀ k, (Value.slice A xs.length c).ownBlock = some k → B ≤ k := fun k hk => (World.ownsRow.lt hown k hk).1
    rw [← e] at hown' ⊢
    exact h A' c' w' (by unfold OwnInts; rw [List.map_append]; exact hown') hg ((Below.refl _ _).grown hg hB hk)
end Go.Proofs.Ytibnjbbiagjnjaa
