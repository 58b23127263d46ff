/- Small facts that all walks of this seat use: the bits of an encoding, texts out of new rows of bytes. No condition. -/
import Derived.Test.YtibnjbbiagjnjaaChecked
import Derived.WalkKit
import Derived.WalkLawsBesides
import Derived.WalkSpells
import Derived.Lib.Hide
import Derived.Laws.BitsAllLaws
import Derived.Laws.BitsLemmas
import Derived.Laws.BytesString
import Derived.Laws.Cells
import Derived.Laws.Rows
import Derived.LoopN
import Derived.Deep.Draws
namespace Go.Proofs.Ytibnjbbiagjnjaa
open Go.RowKit

/-! ### bits -/
theorem ofInt_i64 (a : Nat) (ha : a < 9223372036854775808) : (BitVec.ofInt 64 (a : Int)).toNat = a := by
  rw [BitVec.ofInt_natCast, BitVec.toNat_ofNat]; exact Nat.mod_eq_of_lt (by omega)
theorem i64_or_nat (a b : Nat) (ha : a < 9223372036854775808) (hb : b < 9223372036854775808) : bits .or .i64 (a : Int) (b : Int) = ((a ||| b : Nat) : Int) := by
  have hx : a ||| b < 2 ^ 63 := Nat.or_lt_two_pow (by omega) (by omega)
  show IntKind.i64.wrap ((BitVec.ofInt 64 (a : Int) ||| BitVec.ofInt 64 (b : Int)).toNat : Int) = _
  rw [BitVec.toNat_or, ofInt_i64 a ha, ofInt_i64 b hb, IntKind.wrap_i64]
  omega
theorem nat_or_add (a b i : Nat) (hb : b < 2 ^ i) : 2 ^ i * a ||| b = 2 ^ i * a + b := (Nat.two_pow_add_eq_or_of_lt hb a).symm
theorem or_64 (a : Int) (h0 : 0 ≤ a) (h : a < 64) : bits .or .i64 a 64 = a + 64 := by
  obtain ⟨k, rfl⟩ : ∃ k : Nat, a = k := ⟨a.toNat, by omega⟩
  have := i64_or_nat k 64 (by omega) (by omega)
  rw [show ((64 : Nat) : Int) = 64 from rfl] at this
  rw [this, Nat.or_comm]
  have := nat_or_add 1 k 6 (by omega)
  simp only [Nat.reducePow, Nat.mul_one] at this
  rw [this]; omega
theorem or_128 (a : Int) (h0 : 0 ≤ a) (h : a < 128) : bits .or .i64 a 128 = a + 128 := by
  obtain ⟨k, rfl⟩ : ∃ k : Nat, a = k := ⟨a.toNat, by omega⟩
  have := i64_or_nat k 128 (by omega) (by omega)
  rw [show ((128 : Nat) : Int) = 128 from rfl] at this
  rw [this, Nat.or_comm]
  have := nat_or_add 1 k 7 (by omega)
  simp only [Nat.reducePow, Nat.mul_one] at this
  rw [this]; omega
theorem or_256 (a b : Int) (h0 : 0 ≤ a) (h : a < 1099511627776) (g0 : 0 ≤ b) (g : b < 256) : bits .or .i64 (a * 256) b = a * 256 + b := by
  obtain ⟨k, rfl⟩ : ∃ k : Nat, a = k := ⟨a.toNat, by omega⟩
  obtain ⟨j, rfl⟩ : ∃ j : Nat, b = j := ⟨b.toNat, by omega⟩
  have := i64_or_nat (k * 256) j (by omega) (by omega)
  rw [show ((k * 256 : Nat) : Int) = (k : Int) * 256 by omega] at this
  rw [this]
  have := nat_or_add k j 8 (by omega)
  simp only [Nat.reducePow] at this
  rw [Nat.mul_comm, this]; omega

/-! ### 'string([]byte{..})' -/
theorem conv_lit (w : World) (a : Addr) (ns : List Int) (h : ∀ j v, (ns.map (Value.int .u8))[j]? = some v → w.cell? (a.add j) = some v) (c : Nat) :
    (convert 22 9 (.slice (some a) ns.length c)).run Try.prog w = .ok (.string ⟨(ns.map fun n => UInt8.ofNat n.toNat).toArray⟩) w := by
  rw [run_convert_bytes_string w _ _ 5 (some a) _ _ Try.underlying22 Try.underlying5 Try.underlying9]
  have hl := run_loadCells_list (P := Try.prog) w a (ns.map (Value.int .u8)) h
  rw [List.length_map] at hl
  rw [run_bytesToString w a ns.length c ns hl]
  have : ∀ (ns : List Int) (s : ByteArray), ns.foldl (fun r n => r.push (UInt8.ofNat n.toNat)) s = ⟨s.data ++ (ns.map fun n => UInt8.ofNat n.toNat).toArray⟩ := by
    intro ns
    induction ns with
    | nil => intro s; simp
    | cons n ns ih => intro s; simp only [List.foldl_cons]; rw [ih]; simp [ByteArray.push]
  rw [this]
  congr 2
  simp [ByteArray.empty, ByteArray.emptyWithCapacity]
  rfl
theorem cell_lit (w : World) (xs : List Value) (t : TypeId) (j : Nat) (v : Value) (h : xs[j]? = some v) : (w.alloc (.cells xs.toArray t)).cell? ((⟨w.heap.size, 0, none⟩ : Addr).add j) = some v := by
  have hh : (w.alloc (.cells xs.toArray t)).heap[w.heap.size]? = some (.cells xs.toArray t) := heap_alloc_new w _
  have ha : (⟨w.heap.size, 0, none⟩ : Addr).add j = ⟨w.heap.size, j, none⟩ := by
    unfold Addr.add; by_cases hj : j = 0 <;> simp [hj]
  rw [ha, cell_of_row _ _ _ _ _ _ hh]
  simpa using h
theorem conv1 (w : World) (x : Int) (b : Nat) (hb : b = w.heap.size) : (convert 22 9 (.slice (some ⟨b, 0, none⟩) 1 1)).run Try.prog (w.alloc (.cells #[.int .u8 x] 5)) = .ok (.string ⟨#[UInt8.ofNat x.toNat]⟩) (w.alloc (.cells #[.int .u8 x] 5)) := by
  subst hb
  exact conv_lit _ ⟨w.heap.size, 0, none⟩ [x] (fun j v h => cell_lit w _ _ j v h) 1
theorem conv2 (w : World) (x y : Int) (b : Nat) (hb : b = w.heap.size) : (convert 22 9 (.slice (some ⟨b, 0, none⟩) 2 2)).run Try.prog (w.alloc (.cells #[.int .u8 x, .int .u8 y] 5)) = .ok (.string ⟨#[UInt8.ofNat x.toNat, UInt8.ofNat y.toNat]⟩) (w.alloc (.cells #[.int .u8 x, .int .u8 y] 5)) := by
  subst hb
  exact conv_lit _ ⟨w.heap.size, 0, none⟩ [x, y] (fun j v h => cell_lit w _ _ j v h) 2
theorem conv4 (w : World) (x y z u : Int) (b : Nat) (hb : b = w.heap.size) : (convert 22 9 (.slice (some ⟨b, 0, none⟩) 4 4)).run Try.prog (w.alloc (.cells #[.int .u8 x, .int .u8 y, .int .u8 z, .int .u8 u] 5)) = .ok (.string ⟨#[UInt8.ofNat x.toNat, UInt8.ofNat y.toNat, UInt8.ofNat z.toNat, UInt8.ofNat u.toNat]⟩) (w.alloc (.cells #[.int .u8 x, .int .u8 y, .int .u8 z, .int .u8 u] 5)) := by
  subst hb
  exact conv_lit _ ⟨w.heap.size, 0, none⟩ [x, y, z, u] (fun j v h => cell_lit w _ _ j v h) 4

/-! ### a slice of integers that came in, as the shell of a law's proof tells it -/
/-- Nil; or a row of 'cap' cells, the numbers zs, the first 'len' of which are its elements, each fitting its kind. -/
def IsRow (k : IntKind) (w : World) (a : Option Addr) (len cap : Nat) (zs : List Int) : Prop :=
  (a = none ∧ len = 0 ∧ cap = 0 ∧ zs = []) ∨
  ∃ x, a = some x ∧ len ≤ cap ∧ cap ≤ maxLen ∧ zs.length = cap ∧ (∀ i, i < zs.length → w.cell? (x.add i) = some (.int k (zs.getD i 0))) ∧ ∀ n ∈ zs, (Lit.int k n).wf = true
theorem cell_lt {w : World} {a : Addr} {v : Value} (h : w.cell? a = some v) : a.block < w.heap.size := by
  rcases Nat.lt_or_ge a.block w.heap.size with hlt | hge
  · exact hlt
  · unfold World.cell? at h
    rw [Array.getElem?_eq_none hge] at h
    simp at h
theorem ret_bool {a b : Bool} (h : a = b) : Ending.returned (.bool a) = .returned (.bool b) := by rw [h]
theorem drew2 {w w1 w2 : World} (h : Below w.heap.size w w1) (k : Below w1.heap.size w1 w2) : Below w.heap.size w w2 := h.trans (k.mono h.size)
theorem below_drewN {B : Nat} {a w : World} (h : Below B a w) (n : Nat) : Below B a (w.drewN n) := ⟨h.os, h.tape, h.output, h.size, h.block⟩
end Go.Proofs.Ytibnjbbiagjnjaa
