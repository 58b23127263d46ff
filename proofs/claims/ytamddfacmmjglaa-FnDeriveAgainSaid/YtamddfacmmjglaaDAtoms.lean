/- Sets of atoms as bits of a number: contracts of 'has', 'list', 'secretsValid', 'derive'. No condition beyond those in each theorem. -/
import Derived.Test.YtamddfacmmjglaaDBoxes
namespace Go.Proofs.Ytamddfacmmjglaa
open Go.RowKit
set_option linter.unusedVariables false
theorem wrap_small : ∀ n : Int, 0 ≤ n → n < 2 ^ 62 → IntKind.i64.wrap n = n := fun n h0 h1 => by rw [IntKind.wrap_i64]; omega
theorem and_bit (m n : Nat) (hm : m < 2097152) : (bits BinOp.and IntKind.i64 ((m : Int) / 2 ^ n) 1 == 1) = m.testBit n := by
  have e : ((m : Int) / 2 ^ n) = ((m / 2 ^ n : Nat) : Int) := by push_cast; rfl
  have h1 : m / 2 ^ n < 2 ^ 62 := Nat.lt_of_le_of_lt (Nat.div_le_self _ _) (by omega)
  have h := (bits_nat .i64 62 (by decide) wrap_small (m / 2 ^ n) 1 h1 (by decide)).1
  rw [e, show (1 : Int) = ((1 : Nat) : Int) from rfl, h, Nat.testBit_eq_decide_div_mod_eq, Nat.and_one_is_mod]
  rw [Bool.eq_iff_iff, beq_iff_eq, decide_eq_true_eq]
  omega
theorem or_bit (m : Nat) (x : Int) (hm : m < 2097152) (h0 : 1 ≤ x) (h1 : x ≤ 20) : bits BinOp.or IntKind.i64 (m : Int) (2 ^ x.toNat) = ((put m x : Nat) : Int) ∧ put m x < 2097152 := by
  have hp : 2 ^ x.toNat < 2 ^ 21 := Nat.pow_lt_pow_right (by decide) (by omega)
  have h := (bits_nat .i64 62 (by decide) wrap_small m (2 ^ x.toNat) (by omega) (by omega)).2
  constructor
  · rw [show ((2 : Int) ^ x.toNat) = ((2 ^ x.toNat : Nat) : Int) by push_cast; rfl, h]; rfl
  · unfold put
    have := Nat.or_lt_two_pow (n := 21) (x := m) (y := 2 ^ x.toNat) (by omega) hp
    omega
theorem has_any (m : Nat) (x : Int) (w : World) (r : Bool) (hm : m < 2097152) (h : (isAtom x && m.testBit x.toNat) = r) : Calls Try.prog 40 #[.int .i64 (m : Int), .int .i64 x] w fun e w' => e = .returned (.bool r) ∧ w = w' := by
  have R := Lib.hid h
  clear h
  obtain ⟨q, hq⟩ : ∃ q, isAtom x = q := ⟨_, rfl⟩
  have Q := Lib.hid hq
  clear hq
  cases q with
  | false =>
    have D := Lib.hid (show false = r by rw [← R.out, Q.out]; rfl)
    go_enter Try.func40, Try.ntmps40
    go_wp2_with fail
    refine (iatom_is x w false Q.out).mono ?_
    rintro e w' ⟨rfl, rfl⟩
    go_wp2
    go_ret
    exact ⟨ret_bool D.out, rfl⟩
  | true =>
    have hx := (isAtom_iff x).1 Q.out
    obtain ⟨h0, h1⟩ := hx
    have D := Lib.hid (show (bits BinOp.and IntKind.i64 ((m : Int) / 2 ^ x.toNat) 1 == 1) = r by rw [and_bit m _ hm, ← R.out, Q.out]; rfl)
    go_enter Try.func40, Try.ntmps40
    go_wp2_with fail
    refine (iatom_is x w true Q.out).mono ?_
    rintro e w' ⟨rfl, rfl⟩
    go_wp2
    go_ret
    exact ⟨ret_bool D.out, rfl⟩
theorem isec_any (B B' : Nat) (A A' : Option Addr) (bs : List Bx) (ks : List Int) (c c' : Nat) (w : World) (r : Bool) (h : BxIn w B A bs) (h' : IntsIn w B' A' ks) (hBw : B ≤ w.heap.size) (hBw' : B' ≤ w.heap.size) (hm : bs.length ≤ 2000000) (hmi : ∀ b ∈ bs, b.ins.length ≤ 1000000000000) (hmk : ks.length ≤ 1000000000000) (hr : (bvalid bs && kvalid ks) = r) :
    Calls Try.prog 30 #[.slice A bs.length c, .slice A' ks.length c'] w (BPost w r) := by
  have H := Lib.hid h
  have H' := Lib.hid h'
  have R := Lib.hid hr
  have MI := Lib.hid hmi
  clear h h' hr hmi
  obtain ⟨q, hq⟩ : ∃ q, bvalid bs = q := ⟨_, rfl⟩
  have Q := Lib.hid hq
  clear hq
  obtain ⟨p, hp⟩ : ∃ p, ks.all isAtom = p := ⟨_, rfl⟩
  have P := Lib.hid hp
  clear hp
  cases q with
  | false =>
    have D := Lib.hid (show false = r by rw [← R.out, Q.out]; rfl)
    go_enter Try.func30, Try.ntmps30
    go_wp2_with fail
    refine (ibv_any B A bs c w false H.out hBw hm MI.out Q.out).mono ?_
    rintro e w1 ⟨rfl, hB⟩
    have B1 := Lib.hid hB
    clear hB
    go_wp2
    go_ret
    exact ⟨ret_bool D.out, B1.out⟩
  | true =>
    by_cases hl : ks.length ≤ 20
    · have D := Lib.hid (show p = r by rw [← R.out, Q.out, ← P.out]; unfold kvalid; rw [decide_eq_true hl]; rfl)
      go_enter Try.func30, Try.ntmps30
      go_wp2_with fail
      refine (ibv_any B A bs c w true H.out hBw hm MI.out Q.out).mono ?_
      rintro e w1 ⟨rfl, hB⟩
      have B1 := Lib.hid hB
      have H1 := Lib.hid (H'.out.below (hB.mono hBw'))
      clear hB
      go_wp2_with fail
      refine (iatoms_is B' A' ks c' w1 p H1.out hmk P.out).mono ?_
      rintro e w2 ⟨rfl, rfl⟩
      go_wp2
      go_ret
      exact ⟨ret_bool D.out, B1.out⟩
    · have D := Lib.hid (show false = r by rw [← R.out, Q.out]; unfold kvalid; rw [decide_eq_false hl]; rfl)
      go_enter Try.func30, Try.ntmps30
      go_wp2_with fail
      refine (ibv_any B A bs c w true H.out hBw hm MI.out Q.out).mono ?_
      rintro e w1 ⟨rfl, hB⟩
      have B1 := Lib.hid hB
      clear hB
      go_wp2
      go_ret
      exact ⟨ret_bool D.out, B1.out⟩
end Go.Proofs.Ytamddfacmmjglaa
