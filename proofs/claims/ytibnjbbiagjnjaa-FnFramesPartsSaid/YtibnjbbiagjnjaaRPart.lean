/- Parts of a slice of ranges: from an element on, up to an element. No condition beyond those in each theorem. -/
import Derived.Test.YtibnjbbiagjnjaaRng
import Derived.Lib.Hide
namespace Go.Proofs.Ytibnjbbiagjnjaa
open Go.RowKit
theorem rs_from {w : World} {B b off : Nat} {rs : List Rg} (h : RsIn w B (some ⟨b, off, none⟩) rs) (k : Nat) : RsIn w B (some ⟨b, off + k * 2, none⟩) (rs.drop k) := fun h0 => by
  rw [List.length_drop] at h0
  obtain ⟨b', off', hA, hb, hc⟩ := h (by omega)
  injection hA with hA
  injection hA with h1 h2 _
  subst h1 h2
  refine ⟨b, off + k * 2, rfl, hb, fun i hi => ?_⟩
  rw [List.length_drop] at hi
  have e : (rs.drop k).getD i (0, 0) = rs.getD (k + i) (0, 0) := by
    rw [List.getD_eq_getElem?_getD, List.getElem?_drop, List.getD_eq_getElem?_getD]
  have := hc (k + i) (by omega)
  rw [e, show off + k * 2 + i * 2 = off + (k + i) * 2 by omega]
  exact this
theorem RsIn.take {w : World} {B : Nat} {A : Option Addr} {rs : List Rg} (h : RsIn w B A rs) (k : Nat) : RsIn w B A (rs.take k) := fun h0 => by
  rw [List.length_take] at h0
  obtain ⟨b, off, hA, hb, hc⟩ := h (by omega)
  refine ⟨b, off, hA, hb, fun i hi => ?_⟩
  rw [List.length_take] at hi
  have e : (rs.take k).getD i (0, 0) = rs.getD i (0, 0) := by
    rw [List.getD_eq_getElem?_getD, List.getElem?_take, if_pos (by omega), List.getD_eq_getElem?_getD]
  rw [e]
  exact hc i (by omega)
/-- The value of 'l[k:]'. -/
theorem part_from (A : Option Addr) (rs : List Rg) (c k : Nat) (hk : k ≤ rs.length) (hc : rs.length ≤ c) :
    ∃ A2, (∀ W, (Instr.slice 23 (.slice A rs.length c) (some (.int .i64 (k : Int))) none none).run Try.prog W = .ok (.slice A2 (rs.drop k).length (c - k)) W) ∧ (∀ (w : World) (B : Nat), RsIn w B A rs → RsIn w B A2 (rs.drop k)) := by
  obtain ⟨i, hi, hz, h1, h3⟩ := info_parts rng_info
  refine ⟨if c = k then A else A.map (·.add (k * 2)), fun W => ?_, fun w B h => ?_⟩
  · have e1 : (0 : Int) ≤ (k : Int) ∧ (k : Int) ≤ (rs.length : Int) := by omega
    simp [Instr.slice, Instr.sliceBounds, Instr.sliceBound, asIntOf, run_underlying Try.underlying23, sizeOf, typeInfo, hi, h1, e1, hk]
  · by_cases h0 : k < rs.length
    · rw [if_neg (by omega)]
      obtain ⟨b, off, rfl, _, _⟩ := h (by omega)
      have e : (⟨b, off, none⟩ : Addr).add (k * 2) = ⟨b, off + k * 2, none⟩ := by unfold Addr.add; by_cases h0 : k * 2 = 0 <;> simp [h0]
      rw [Option.map_some, e]
      exact rs_from h k
    · rw [List.drop_eq_nil_of_le (by omega)]
      exact RsIn.nil _ _ _
/-- The value of 'l[:k]'. -/
theorem part_upto (A : Option Addr) (rs : List Rg) (c k : Nat) (hk : k ≤ rs.length) (hc : rs.length ≤ c) (W : World) :
    (Instr.slice 23 (.slice A rs.length c) none (some (.int .i64 (k : Int))) none).run Try.prog W = .ok (.slice A (rs.take k).length c) W := by
  obtain ⟨i, hi, hz, h1, h3⟩ := info_parts rng_info
  have e1 : (0 : Int) ≤ (k : Int) ∧ (k : Int) ≤ (c : Int) := by omega
  have e2 : k ≤ c := by omega
  have e3 : min k rs.length = k := by omega
  by_cases h0 : c = 0
  · have : k = 0 := by omega
    subst h0
    subst this
    simp [Instr.slice, Instr.sliceBounds, Instr.sliceBound, asIntOf, run_underlying Try.underlying23, sizeOf, typeInfo, hi]
  · cases A with
    | none => simp [Instr.slice, Instr.sliceBounds, Instr.sliceBound, asIntOf, run_underlying Try.underlying23, sizeOf, typeInfo, hi, e1, e2, e3, h0]
    | some a =>
      have e : a.add 0 = a := by unfold Addr.add; simp
      simp [Instr.slice, Instr.sliceBounds, Instr.sliceBound, asIntOf, run_underlying Try.underlying23, sizeOf, typeInfo, hi, e1, e2, e3, h0, e]
theorem part_of {w : World} {B : Nat} {A : Option Addr} {rs : List Rg} (h : RsIn w B A rs) (c k : Nat) (hk : k ≤ rs.length) (hc : rs.length ≤ c) :
    ∃ (A2 : Option Addr) (ds : List Rg), Hid (ds = rs.drop k) ∧ ds.length ≤ rs.length ∧ (∀ W, (Instr.slice 23 (.slice A rs.length c) (some (.int .i64 (k : Int))) none none).run Try.prog W = .ok (.slice A2 ds.length (c - k)) W) ∧ Hid (RsIn w B A2 ds) := by
  obtain ⟨A2, h1, h2⟩ := part_from A rs c k hk hc
  exact ⟨A2, _, rfl, by rw [List.length_drop]; omega, h1, h2 w B h⟩
theorem part_to {w : World} {B : Nat} {A : Option Addr} {rs : List Rg} (h : RsIn w B A rs) (c k : Nat) (hk : k ≤ rs.length) (hc : rs.length ≤ c) :
    ∃ (ds : List Rg), Hid (ds = rs.take k) ∧ ds.length ≤ rs.length ∧ (∀ W, (Instr.slice 23 (.slice A rs.length c) none (some (.int .i64 (k : Int))) none).run Try.prog W = .ok (.slice A ds.length c) W) ∧ Hid (RsIn w B A ds) :=
  ⟨_, rfl, by rw [List.length_take]; omega, part_upto A rs c k hk hc, h.take k⟩
end Go.Proofs.Ytibnjbbiagjnjaa
