/- What the laws of integers' encodings lean on: a text out of a slice that came in, and the decoder at a known text. No condition beyond those in each theorem. -/
import Derived.Test.YtnmanfjhbppbdaaBytes
import Derived.Test.YtnmanfjhbppbdaaVMin
namespace Go.Proofs.Ytnmanfjhbppbdaa
open Go.RowKit
theorem idec_of (s : ByteArray) (w : World) (hm : s.size ≤ 9223372036854775807) (n z : Int) (b : Bool) (h1 : dnum s.data.toList = n) (h2 : (dsize s.data.toList : Int) = z) (h3 : fine s.data.toList = b) :
    Calls Try.prog 23 #[.string s] w fun e w' => e = .returned (.tuple #[.int .i64 n, .int .i64 z, .bool b]) ∧ w = w' :=
  (idec_any s w hm).mono fun _ _ ⟨he, hw⟩ => ⟨by rw [he, h1, h2, h3], hw⟩
theorem text_append (l : List UInt8) (t : ByteArray) : ((⟨l.toArray⟩ : ByteArray) ++ t).data.toList = l ++ t.data.toList := by
  simp
theorem isEmpty_venc (n : Int) (h : 0 ≤ n ∧ n ≤ 1073741823) : (venc n).isEmpty = false := by
  unfold venc; (repeat' split) <;> first | rfl | omega
/-- 'string(code)' of a slice that came in. -/
theorem conv_arg {w : World} {A : Option Addr} {len cap : Nat} (h : CodeArg w A len cap) : ∃ s : ByteArray, s.size = len ∧
    ∀ W, Below w.heap.size w W → (convert 28 9 (.slice A len cap)).run Try.prog W = .ok (.string s) W := by
  rcases Nat.eq_zero_or_pos len with h0 | h0
  · subst h0
    refine ⟨ByteArray.empty, rfl, fun W _ => ?_⟩
    rw [run_convert_bytes_string W _ _ 5 A _ _ Try.underlying28 Try.underlying5 Try.underlying9]
    cases A with
    | none => rfl
    | some a =>
      have hl := run_loadCells_list (P := Try.prog) W a [] (fun j v h => by simp at h)
      rw [run_bytesToString W a 0 cap [] hl]
      rfl
  · obtain ⟨b, off, rfl, hb, hc⟩ := h.2.2 h0
    obtain ⟨f, hf⟩ : ∃ f : Nat → Int, ∀ i, i < len → 0 ≤ f i ∧ f i < 256 ∧ w.cell? ⟨b, off + i, none⟩ = some (.int .u8 (f i)) := by
      refine ⟨fun i => if hi : i < len then (hc i hi).choose else 0, fun i hi => ?_⟩
      simp only [hi, dite_true]
      exact (hc i hi).choose_spec
    refine ⟨⟨(((List.range len).map f).map fun n => UInt8.ofNat n.toNat).toArray⟩, by rw [size_text]; simp, fun W hW => ?_⟩
    have e : ∀ i, (⟨b, off, none⟩ : Addr).add i = ⟨b, off + i, none⟩ := by
      intro i; unfold Addr.add; by_cases hi : i = 0 <;> simp [hi]
    have := conv_lit W ⟨b, off, none⟩ ((List.range len).map f) (fun j v hj => by
      have hj' : j < len := by
        have := (List.getElem?_eq_some_iff.1 hj).1
        simpa using this
      rw [e, hW.cell (p := ⟨b, off + j, none⟩) hb, (hf j hj').2.2]
      simp [List.getElem?_map, List.getElem?_range hj'] at hj
      rw [← hj]) cap
    simpa using this
end Go.Proofs.Ytnmanfjhbppbdaa
