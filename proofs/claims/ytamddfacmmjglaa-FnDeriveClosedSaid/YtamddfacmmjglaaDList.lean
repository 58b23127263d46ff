/- The atoms of a set, listed; the contract of impl.Derive. No condition but bounds on lengths. -/
import Derived.Test.YtamddfacmmjglaaDDer
namespace Go.Proofs.Ytamddfacmmjglaa
open Go.RowKit
set_option linter.unusedVariables false
/-- The atoms up to n. -/
def dupto (m n : Nat) : List Int := ((List.range n).map fun (i : Nat) => (i : Int) + 1).filter fun x => m.testBit x.toNat
theorem dupto_all (m : Nat) : dupto m 20 = dlist m := rfl
theorem dupto_succ (m n : Nat) : dupto m (n + 1) = dupto m n ++ (if m.testBit ((n : Int) + 1).toNat then [(n : Int) + 1] else []) := by
  unfold dupto
  rw [List.range_succ, List.map_append, List.filter_append]
  congr 1
  simp only [List.map_cons, List.map_nil, List.filter_cons, List.filter_nil]
theorem dupto_len (m n : Nat) : (dupto m n).length ≤ n := by
  have := List.length_filter_le (fun x : Int => m.testBit x.toNat) ((List.range n).map fun (i : Nat) => (i : Int) + 1)
  unfold dupto; simpa using this
set_option maxHeartbeats 800000 in
theorem list_any (m : Nat) (w : World) (hm : m < 2097152) : Calls Try.prog 32 #[.int .i64 (m : Int)] w (CopyPost w (dlist m)) := by
  go_enter Try.func32, Try.ntmps32
  go_wp2_with fail
  go_loopw [3, 4] (fun o i wr => ∃ (n : Nat) (A : Option Addr) (c : Nat) (xs : List Int), n ≤ 20 ∧ i = .int .i64 ((n : Int) + 1) ∧ o = .slice A xs.length c ∧ Hid (xs = dupto m n) ∧ xs.length ≤ 20 ∧ Hid (OwnInts wr w.heap.size A c xs) ∧ Hid (Below w.heap.size w wr)) (fun _ i _ => 21 - (intOf i).toNat)
  case atStart => exact ⟨0, none, 0, [], by omega, rfl, rfl, rfl, by simp, OwnInts.nil _ _, Below.refl _ _⟩
  case round =>
    obtain ⟨n, A, c, xs, hn, rfl, rfl, hx, hl, hO, hB⟩ := hrel
    by_cases hlt : n < 20
    · obtain ⟨q, hq⟩ : ∃ q, m.testBit ((n : Int) + 1).toNat = q := ⟨_, rfl⟩
      have Q := Lib.hid (show (isAtom ((n : Int) + 1) && m.testBit ((n : Int) + 1).toNat) = q by rw [(isAtom_iff _).2 ⟨by omega, by omega⟩, hq]; rfl)
      have S := Lib.hid (show dupto m (n + 1) = xs ++ (if q then [(n : Int) + 1] else []) by rw [dupto_succ, hq, ← hx.out])
      clear hq
      go_wp2_with fail
      refine (has_any m ((n : Int) + 1) wr q hm Q.out).mono ?_
      rintro e w1 ⟨rfl, rfl⟩
      cases q with
      | false =>
        have X := Lib.hid (show xs = dupto m (n + 1) by rw [S.out]; simp)
        go_wp2_with fail
        go_roundw
        case rel => exact ⟨n + 1, A, c, xs, by omega, by go_num, rfl, X.out, hl, hO.out, hB.out⟩
        case measure => simp [intOf]; omega
      | true =>
        have X := Lib.hid (show xs ++ [(n : Int) + 1] = dupto m (n + 1) by rw [S.out]; rfl)
        have L := Lib.hid (show (xs ++ [(n : Int) + 1]).length ≤ 20 by rw [X.out]; have := dupto_len m (n + 1); omega)
        have hcell : (wr.alloc (.cells #[.int .i64 ((n : Int) + 1)] 3)).cell? ⟨wr.heap.size, 0, none⟩ = some (.int .i64 ((n : Int) + 1)) := cell_lit wr [.int .i64 ((n : Int) + 1)] 3 0 _ rfl
        have hBs : w.heap.size ≤ (wr.alloc (.cells #[.int .i64 ((n : Int) + 1)] 3)).heap.size := by have := hB.out.size; simp; omega
        go_wp2_with (at_builtin; refine wpList_append_int rfl (.tmp 12) (.tmp 14) rfl w.heap.size A c xs rfl (hO.out.alloc _) wr.heap.size ((n : Int) + 1) rfl hcell (by omega) hBs ?_; intro A' c' w3 hO3 hg3 hB3)
        have hO3' := Lib.hid hO3
        have hB3' := Lib.hid (((hB.out).alloc hB.out.size _).trans hB3)
        clear hO3 hg3 hB3
        go_wp2
        go_roundw
        case rel => exact ⟨n + 1, A', c', xs ++ [(n : Int) + 1], by omega, by go_num, by simp, X.out, L.out, hO3'.out, hB3'.out⟩
        case measure => simp [intOf]; omega
    · have hn' : n = 20 := by omega
      have D := Lib.hid (show CopyPost w (dlist m) (.returned (.slice A xs.length c)) wr by
        have e : xs = dlist m := by rw [hx.out, hn', dupto_all]
        rw [← e]; exact ⟨A, c, rfl, hO.out, hB.out⟩)
      clear hn'
      go_wp2_with fail
      go_ret
      exact D.out
theorem ider2_any (B B' : Nat) (A A' : Option Addr) (bs : List Bx) (ks : List Int) (c c' : Nat) (w : World) (h : BxIn w B A bs) (h' : IntsIn w B' A' ks) (hBw : B ≤ w.heap.size) (hBw' : B' ≤ w.heap.size) (hm : bs.length ≤ 2000000) (hmi : ∀ b ∈ bs, b.ins.length ≤ 1000000000000) (hmk : ks.length ≤ 1000000000000) :
    Calls Try.prog 15 #[.slice A bs.length c, .slice A' ks.length c'] w (CopyPost w (dout bs ks)) := by
  have H := Lib.hid h
  have H' := Lib.hid h'
  have MI := Lib.hid hmi
  clear h h' hmi
  obtain ⟨q, hq⟩ : ∃ q, (bvalid bs && kvalid ks) = q := ⟨_, rfl⟩
  have Q := Lib.hid hq
  clear hq
  cases q with
  | false =>
    have D := Lib.hid (show dout bs ks = [] by unfold dout; rw [Q.out]; rfl)
    go_enter Try.func15, Try.ntmps15
    go_wp2_with fail
    refine (isec_any B B' A A' bs ks c c' w false H.out H'.out hBw hBw' hm MI.out hmk Q.out).mono ?_
    rintro e w1 ⟨rfl, hB⟩
    have B1 := Lib.hid hB
    clear hB
    go_wp2
    go_ret
    rw [D.out]
    exact ⟨none, 0, rfl, OwnInts.nil _ _, B1.out⟩
  | true =>
    have QQ := Lib.hid (Bool.and_eq_true_iff.1 Q.out)
    have D := Lib.hid (show dout bs ks = dlist (der bs ks) by unfold dout; rw [Q.out]; rfl)
    obtain ⟨d, hd⟩ : ∃ d, der bs ks = d := ⟨_, rfl⟩
    have DM := Lib.hid (show d < 2097152 by
      have h1 := der_atoms QQ.out.1 QQ.out.2
      rw [hd] at h1
      refine Nat.lt_pow_two_of_testBit (n := 21) d fun i hi => ?_
      rw [Bool.eq_false_iff]
      intro hb
      have := h1 i hb
      omega)
    have DD := Lib.hid hd
    clear hd
    go_enter Try.func15, Try.ntmps15
    go_wp2_with fail
    refine (isec_any B B' A A' bs ks c c' w true H.out H'.out hBw hBw' hm MI.out hmk Q.out).mono ?_
    rintro e w1 ⟨rfl, hB⟩
    have B1 := Lib.hid hB
    clear hB
    have H1 := Lib.hid (H.out.below (B1.out.mono hBw))
    have H1' := Lib.hid (H'.out.below (B1.out.mono hBw'))
    have hv := ider_any B B' A A' bs ks c c' w1 H1.out H1'.out (Nat.le_trans hBw B1.out.size) (Nat.le_trans hBw' B1.out.size) QQ.out.1 QQ.out.2
    rw [DD.out] at hv
    have HV := Lib.hid hv
    clear hv
    go_wp2_with fail
    refine HV.out.mono ?_
    rintro e w2 ⟨rfl, hB⟩
    have B2 := Lib.hid (drew2 B1.out hB)
    clear hB
    go_wp2_with fail
    refine (list_any d w2 DM.out).mono ?_
    rintro e w3 ⟨A3, c3, rfl, hO, hB⟩
    have B3 := Lib.hid (drew2 B2.out hB)
    have O3 := Lib.hid (hO.mono B2.out.size)
    clear hB hO
    go_wp2
    go_ret
    rw [D.out, DD.out]
    exact ⟨A3, c3, rfl, O3.out, B3.out⟩
end Go.Proofs.Ytamddfacmmjglaa
