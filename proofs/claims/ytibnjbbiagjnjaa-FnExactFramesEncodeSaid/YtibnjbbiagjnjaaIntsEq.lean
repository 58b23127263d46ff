/- Contracts of the laws' helpers on slices of integers: equal, marked, held. No condition beyond those in each theorem. -/
import Derived.Test.YtibnjbbiagjnjaaInts
import Derived.Deep.QuietTactic
import Derived.BigQuiet
import Derived.Deep.Draws
namespace Go.Proofs.Ytibnjbbiagjnjaa
open Go.RowKit
theorem take_succ_eq {xs ys : List Int} {k : Nat} (hx : k < xs.length) (hy : k < ys.length) : xs.take (k + 1) = ys.take (k + 1) ↔ xs.take k = ys.take k ∧ xs.getD k 0 = ys.getD k 0 := by
  rw [List.take_succ_eq_append_getElem hx, List.take_succ_eq_append_getElem hy, List.getD_eq_getElem?_getD, List.getD_eq_getElem?_getD, List.getElem?_eq_getElem hx, List.getElem?_eq_getElem hy]
  constructor
  · intro h
    have := List.append_inj' h rfl
    exact ⟨this.1, by simpa using this.2⟩
  · rintro ⟨h1, h2⟩
    rw [h1]; simp at h2; rw [h2]
/-- The slice at A, as long as xs, reads as xs, in a block below B. -/
def IntsIn (w : World) (B : Nat) (A : Option Addr) (xs : List Int) : Prop :=
  0 < xs.length → ∃ b off, A = some ⟨b, off, none⟩ ∧ b < B ∧ ∀ i, i < xs.length → w.cell? ⟨b, off + i, none⟩ = some (.int .i64 (xs.getD i 0))
theorem IntsIn.below {w w' : World} {B : Nat} {A : Option Addr} {xs : List Int} (h : IntsIn w B A xs) (hb : Below B w w') : IntsIn w' B A xs := fun h0 => by
  obtain ⟨b, off, hA, hlt, hc⟩ := h h0
  exact ⟨b, off, hA, hlt, fun i hi => (hb.cell (p := ⟨b, off + i, none⟩) hlt).trans (hc i hi)⟩
theorem IntsIn.mono {w : World} {B B' : Nat} {A : Option Addr} {xs : List Int} (h : IntsIn w B A xs) (hB : B ≤ B') : IntsIn w B' A xs := fun h0 => by
  obtain ⟨b, off, hA, hlt, hc⟩ := h h0
  exact ⟨b, off, hA, by omega, hc⟩
theorem OwnInts.in_ {w : World} {B : Nat} {A : Option Addr} {c : Nat} {xs : List Int} (h : OwnInts w B A c xs) : IntsIn w w.heap.size A xs := fun h0 => by
  obtain ⟨g, rfl, _, hg, hc⟩ := h.cell h0
  exact ⟨g, 0, rfl, hg, fun i hi => by rw [Nat.zero_add]; exact hc i hi⟩
def EqPost (w : World) (b : Bool) (e : Ending) (w' : World) : Prop := e = .returned (.bool b) ∧ Below w.heap.size w w'
theorem OwnInts.stored {w : World} {B g c : Nat} {xs : List Int} (h : OwnInts w B (some ⟨g, 0, none⟩) c xs) (j : Nat) (y : Int) : OwnInts (w.setCell ⟨g, j, none⟩ (.int .i64 y)) B (some ⟨g, 0, none⟩) c (xs.set j y) := by
  have := World.ownsRow.stored h j (.int .i64 y)
  unfold OwnInts
  rw [List.length_set, List.map_set]
  exact this.1
end Go.Proofs.Ytibnjbbiagjnjaa
