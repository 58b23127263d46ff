/- Encodings are ordered like integers, byte by byte: the plain law. No condition but that both integers have an encoding. -/
import Derived.Test.YtnmanfjhbppbdaaVEnc
namespace Go.Proofs.Ytnmanfjhbppbdaa
open Go.RowKit
theorem bl_cons (a b : UInt8) (x y : List UInt8) : Op.bytesLess (a :: x) (b :: y) = true ↔ (a.toNat : Int) < (b.toNat : Int) ∨ ((a.toNat : Int) = (b.toNat : Int) ∧ Op.bytesLess x y = true) := by
  simp only [Op.bytesLess, Bool.or_eq_true, Bool.and_eq_true, decide_eq_true_eq, beq_iff_eq, UInt8.lt_iff_toNat_lt, ← UInt8.toNat_inj, Int.ofNat_lt, Int.ofNat_inj]
theorem bl_nil (x : List UInt8) : Op.bytesLess x [] = true ↔ False := by
  cases x <;> simp [Op.bytesLess]
theorem bl_nil' (b : UInt8) (y : List UInt8) : Op.bytesLess [] (b :: y) = true ↔ True := by simp [Op.bytesLess]
/-- An integer by its digits at base 256: what each byte of its encoding holds. -/
theorem digits (n : Int) (h : 0 ≤ n ∧ n ≤ 1073741823) : ∃ a b c d : Int, n = ((a * 256 + b) * 256 + c) * 256 + d ∧ 0 ≤ a ∧ a < 64 ∧ 0 ≤ b ∧ b < 256 ∧ 0 ≤ c ∧ c < 256 ∧ 0 ≤ d ∧ d < 256 ∧
    n % 256 = d ∧ n / 256 % 256 = c ∧ n / 65536 % 256 = b ∧ (n / 16777216 + 128) % 256 = a + 128 ∧ (n < 16384 → (n / 256 + 64) % 256 = c + 64 ∧ a = 0 ∧ b = 0) := by
  refine ⟨n / 16777216, n / 65536 - n / 16777216 * 256, n / 256 - n / 65536 * 256, n - n / 256 * 256, ?_, ?_, ?_, ?_, ?_, ?_, ?_, ?_, ?_, ?_, ?_, ?_, ?_, ?_⟩ <;> omega
theorem less_venc (m n : Int) (hm : 0 ≤ m ∧ m ≤ 1073741823) (hn : 0 ≤ n ∧ n ≤ 1073741823) : Op.bytesLess (venc m) (venc n) = decide (m < n) := by
  rw [Bool.eq_iff_iff, decide_eq_true_iff]
  have cm : m < 64 ∨ 64 ≤ m ∧ m < 16384 ∨ 16384 ≤ m := by omega
  have cn : n < 64 ∨ 64 ≤ n ∧ n < 16384 ∨ 16384 ≤ n := by omega
  obtain ⟨a, b, c, d, e, ha0, ha, hb0, hb, hc0, hc, hd0, hd, r1, r2, r3, r4, r5⟩ := digits m hm
  obtain ⟨a', b', c', d', e', ha0', ha', hb0', hb', hc0', hc', hd0', hd', r1', r2', r3', r4', r5'⟩ := digits n hn
  rcases cm with g | ⟨g, g'⟩ | g <;> rcases cn with k | ⟨k, k'⟩ | k
  all_goals first | rw [venc_1 m hm.1 g] | rw [venc_2 m g g'] | rw [venc_4 m g hm.2]
  all_goals first | rw [venc_1 n hn.1 k] | rw [venc_2 n k k'] | rw [venc_4 n k hn.2]
  all_goals simp only [vb1, vb2, vb4, bl_cons, bl_nil, bl_nil', b8_toNat, and_false, or_false, and_true]
  all_goals try simp only [r1, r2, r3, r4, r1', r2', r3', r4']
  all_goals try rw [(r5 (by omega)).1]
  all_goals try rw [(r5' (by omega)).1]
  all_goals clear r1 r2 r3 r4 r1' r2' r3' r4'
  all_goals try (have q := r5 (by omega); obtain ⟨_, q1, q2⟩ := q)
  all_goals try (have q := r5' (by omega); obtain ⟨_, q1', q2'⟩ := q)
  all_goals clear r5 r5'
  all_goals omega
end Go.Proofs.Ytnmanfjhbppbdaa
