/- Contracts of the drawn sets of ranges. No condition but that the reader has not been asked too often. -/
import Derived.Test.YtibnjbbiagjnjaaPick
import Derived.Test.YtibnjbbiagjnjaaRAddAll
namespace Go.Proofs.Ytibnjbbiagjnjaa
open Go.RowKit
set_option linter.unusedVariables false
theorem only_below {w w' : World} {row : Option Nat} (hb : Below w.heap.size w w') : w.grownBy w' row := ⟨hb.os, hb.tape, hb.output, hb.size, fun k hk _ => hb.block k hk⟩
theorem only_then {a b c : World} {row : Option Nat} (h : a.grownBy b row) (k : Below a.heap.size b c) : a.grownBy c row :=
  ⟨k.os.trans h.os, k.tape.trans h.tape, k.output.trans h.output, Nat.le_trans h.size k.size, fun i hi hne => (k.block i hi).trans (h.block i hi hne)⟩
theorem Rd.belowB {w w' : World} {r N B : Nat} (h : Rd w r N) (hb : Below B w w') (hr : r < B) : Rd w' r N := h.keep fun k hk => hb.block k (by omega)
/-- A drawn set of ranges. -/
def DrewRs (w : World) (r N : Nat) (e : Ending) (w' : World) : Prop := ∃ A c rs, e = .returned (.slice A rs.length c) ∧ rs.length ≤ 40 ∧ OwnRs w' w.heap.size A c rs ∧ Rd w' r N ∧ w.grownBy w' (some r)
def DrewSet (w : World) (r N : Nat) (e : Ending) (w' : World) : Prop := ∃ A c rs, e = .returned (.slice A rs.length c) ∧ rs.length ≤ 6 ∧ OwnRs w' w.heap.size A c rs ∧ Rd w' r N ∧ w.grownBy w' (some r)
set_option maxHeartbeats 1600000 in
theorem set_any (w : World) (r N : Nat) (h : Rd w r N) (hN : N ≤ 1000000000) :
    Calls Try.prog 49 #[.pointer (some ⟨r, 0, none⟩), .int .i64 40] w (DrewSet w r (N + 30)) := by
  have hrl := h.lt
  have R0 := Lib.hid (h.alloc (.cells #[] 53))
  have O0 := Lib.hid (OwnRs.empty w w.heap.size (Nat.le_refl _))
  have G0 := Lib.hid (only_alloc (World.grownBy.refl w (some r)) (.cells #[] 53))
  clear h
  go_enter Try.func49, Try.ntmps49
  go_wp2_with fail
  go_loopw [5, 6] (fun o i wr => ∃ (k : Nat) (A : Option Addr) (c : Nat) (rs : List Rg), k ≤ 5 ∧ i = .int .i64 k ∧ o = .slice A rs.length c ∧ rs.length ≤ k ∧ Hid (rv (-2) rs = true) ∧ Hid (OwnRs wr w.heap.size A c rs) ∧ Hid (Rd wr r (N + 3 * k)) ∧ Hid (w.grownBy wr (some r))) (fun _ i _ => 6 - (intOf i).toNat)
  case atStart => exact ⟨0, _, 0, [], by omega, rfl, rfl, by simp, rfl, O0.out, R0.out, G0.out⟩
  case round =>
    clear O0 R0 G0
    obtain ⟨k, A, c, rs, hk, rfl, rfl, hl, hv, hO, hR, hG⟩ := hrel
    go_wp2_with fail
    refine (pick_any _ r (N + 3 * k) 6 hR.out (by omega) (by omega) (by omega)).mono ?_
    rintro e w2 ⟨t, rfl, ht0, ht1, hR2, hG2⟩
    have O2 := Lib.hid (hO.out.kept hG2 (by rintro j ⟨⟩; exact hrl))
    have R2 := Lib.hid hR2
    have G2 := Lib.hid (only_trans hG.out hG2)
    clear hR2 hG2 hO hR hG
    by_cases hlt : (k : Int) < t
    · go_wp2_with fail
      refine (pick_any _ r (N + 3 * k + 1) 40 R2.out (by omega) (by omega) (by omega)).mono ?_
      rintro e w3 ⟨a, rfl, ha0, ha1, hR3, hG3⟩
      have O3 := Lib.hid (O2.out.kept hG3 (by rintro j ⟨⟩; exact hrl))
      have R3 := Lib.hid hR3
      have G3 := Lib.hid (only_trans G2.out hG3)
      clear hR3 hG3 O2 R2 G2
      go_wp2_with fail
      refine (pick_any _ r (N + 3 * k + 1 + 1) 4 R3.out (by omega) (by omega) (by omega)).mono ?_
      rintro e w4 ⟨p, rfl, hp0, hp1, hR4, hG4⟩
      have O4 := Lib.hid (O3.out.kept hG4 (by rintro j ⟨⟩; exact hrl))
      have R4 := Lib.hid hR4
      have G4 := Lib.hid (only_trans G3.out hG4)
      clear hR4 hG4 O3 R3 G3
      obtain ⟨hi, hhi⟩ : ∃ hi, (if 39 < a + p then 39 else a + p) = hi := ⟨_, rfl⟩
      have hb : a ≤ hi ∧ hi ≤ 39 := by rw [← hhi]; split <;> omega
      obtain ⟨hb0, hb1⟩ := hb
      have L := radd_len rs a hi
      have V := Lib.hid (radd_rv rs a hi (-2) hv.out (by omega) hb0 (by omega))
      have step : ∀ W, Calls Try.prog 59 #[.slice A rs.length c, .int .i64 a, .int .i64 hi] w4 W → Calls Try.prog 59 #[.slice A rs.length c, .int .i64 a, .int .i64 (if 39 < a + p then 39 else a + p)] w4 W := fun W h => by rw [hhi]; exact h
      have HS := Lib.hid step
      have HH := Lib.hid hhi
      clear step hhi
      by_cases h39 : 39 < a + p
      · have e39 := HH.out
        rw [if_pos h39] at e39
        subst e39
        go_wp2_with fail
        with_reducible refine (sadd_any w4.heap.size A rs c a 39 w4 O4.out.in_ (Nat.le_refl _) (by omega) hv.out ha0 hb0 (by omega)).mono ?_
        intro e w5 hrow
        obtain ⟨A5, c5, q5, hq5, rfl, hO5, hB5⟩ := row_any hrow
        have O5 := Lib.hid (hO5.out.mono G4.out.size)
        have R5 := Lib.hid ((R4.out.below hB5.out).mono (show N + 3 * k + 1 + 1 + 1 ≤ N + 3 * (k + 1) by omega))
        have G5 := Lib.hid (only_then G4.out (hB5.out.mono G4.out.size))
        clear hO5 hB5 hrow O4 R4 G4
        rw [← hq5.out] at L
        go_wp2_with fail
        go_roundw
        case rel => exact ⟨k + 1, A5, c5, q5, by omega, by go_num, rfl, by omega, by rw [hq5.out]; exact V.out, O5.out, R5.out, G5.out⟩
        case measure => simp [intOf]; omega
      · have e39 := HH.out
        rw [if_neg h39] at e39
        subst e39
        go_wp2_with fail
        with_reducible refine (sadd_any w4.heap.size A rs c a (a + p) w4 O4.out.in_ (Nat.le_refl _) (by omega) hv.out ha0 hb0 (by omega)).mono ?_
        intro e w5 hrow
        obtain ⟨A5, c5, q5, hq5, rfl, hO5, hB5⟩ := row_any hrow
        have O5 := Lib.hid (hO5.out.mono G4.out.size)
        have R5 := Lib.hid ((R4.out.below hB5.out).mono (show N + 3 * k + 1 + 1 + 1 ≤ N + 3 * (k + 1) by omega))
        have G5 := Lib.hid (only_then G4.out (hB5.out.mono G4.out.size))
        clear hO5 hB5 hrow O4 R4 G4
        rw [← hq5.out] at L
        go_wp2_with fail
        go_roundw
        case rel => exact ⟨k + 1, A5, c5, q5, by omega, by go_num, rfl, by omega, by rw [hq5.out]; exact V.out, O5.out, R5.out, G5.out⟩
        case measure => simp [intOf]; omega
    · have D := Lib.hid (show DrewSet w r (N + 30) (.returned (.slice A rs.length c)) w2 from ⟨A, c, rs, rfl, by omega, O2.out, R2.out.mono (by omega), G2.out⟩)
      go_wp2
      go_ret
      exact D.out
set_option maxHeartbeats 1600000 in
theorem ranges_any (w : World) (r N : Nat) (h : Rd w r N) (hN : N ≤ 100000000) :
    Calls Try.prog 51 #[.pointer (some ⟨r, 0, none⟩)] w (DrewRs w r (N + 200)) := by
  have hrl := h.lt
  have H := Lib.hid h
  clear h
  go_enter Try.func51, Try.ntmps51
  go_wp2_with fail
  refine (set_any w r N H.out (by omega)).mono ?_
  rintro e w1 ⟨A, c, rs, rfl, hl, hO, hR, hG⟩
  have O1 := Lib.hid hO
  have R1 := Lib.hid hR
  have G1 := Lib.hid hG
  clear hO hR hG
  go_wp2_with fail
  refine (pick_any _ r (N + 30) 12 R1.out (by omega) (by omega) (by omega)).mono ?_
  rintro e w2 ⟨t, rfl, ht0, ht1, hR2, hG2⟩
  have O2 := Lib.hid (O1.out.kept hG2 (by rintro j ⟨⟩; exact hrl))
  have R2 := Lib.hid hR2
  have G2 := Lib.hid (only_trans G1.out hG2)
  clear hR2 hG2 O1 R1 G1
  by_cases t0 : t = 0
  · subst t0
    go_wp2_with fail
    refine (pick_any _ r (N + 30 + 1) 45 R2.out (by omega) (by omega) (by omega)).mono ?_
    rintro e w3 ⟨a, rfl, ha0, ha1, hR3, hG3⟩
    have O3 := Lib.hid (O2.out.kept hG3 (by rintro j ⟨⟩; exact hrl))
    have R3 := Lib.hid hR3
    have G3 := Lib.hid (only_trans G2.out hG3)
    clear hR3 hG3 O2 R2 G2
    go_wp2_with fail
    refine (pick_any _ r (N + 30 + 1 + 1) 45 R3.out (by omega) (by omega) (by omega)).mono ?_
    rintro e w4 ⟨b, rfl, hb0, hb1, hR4, hG4⟩
    have O4 := Lib.hid (O3.out.kept hG4 (by rintro j ⟨⟩; exact hrl))
    have R4 := Lib.hid hR4
    have G4 := Lib.hid (only_trans G3.out hG4)
    clear hR4 hG4 O3 R3 G3
    go_wp2_with (at_builtin; refine wpList_append_one (by rfl) (.tmp 11) (.tmp 18) (by rfl) w.heap.size A c rs (by rfl) O4.out _ (by rfl) (by rfl) (by omega) G4.out.size ?_; intro A' c' w5 qs hqs hql O5 hB5 hg5)
    have D := Lib.hid (show DrewRs w r (N + 200) (.returned (.slice A' qs.length c')) w5 from ⟨A', c', qs, rfl, by rw [hql.out]; omega, O5.out, (R4.out.belowB hB5.out hrl).mono (by omega), only_then G4.out hB5.out⟩)
    go_wp2_with fail
    go_ret
    exact D.out
  · by_cases t1 : t = 1
    · subst t1
      go_wp2_with fail
      refine (pick_any _ r (N + 30 + 1) 4 R2.out (by omega) (by omega) (by omega)).mono ?_
      rintro e w3 ⟨a, rfl, ha0, ha1, hR3, hG3⟩
      have O3 := Lib.hid (O2.out.kept hG3 (by rintro j ⟨⟩; exact hrl))
      have R3 := Lib.hid hR3
      have G3 := Lib.hid (only_trans G2.out hG3)
      clear hR3 hG3 O2 R2 G2
      go_wp2_with (at_builtin; refine wpList_append_one (by rfl) (.tmp 22) (.tmp 27) (by rfl) w.heap.size A c rs (by rfl) O3.out _ (by rfl) (by rfl) (by omega) G3.out.size ?_; intro A' c' w5 qs hqs hql O5 hB5 hg5)
      have D := Lib.hid (show DrewRs w r (N + 200) (.returned (.slice A' qs.length c')) w5 from ⟨A', c', qs, rfl, by rw [hql.out]; omega, O5.out, (R3.out.belowB hB5.out hrl).mono (by omega), only_then G3.out hB5.out⟩)
      go_wp2_with fail
      go_ret
      exact D.out
    · by_cases t2 : t = 2
      · subst t2
        have hz2 := G2.out.size
        have O3 := Lib.hid (OwnRs.empty w2 w.heap.size G2.out.size)
        have R3 := Lib.hid (R2.out.alloc (.cells #[] 53))
        have G3 := Lib.hid (only_alloc G2.out (.cells #[] 53))
        clear O2 R2 G2 t0 t1
        go_wp2_with fail
        go_loopw [3, 4] (fun o i wr => ∃ (k : Nat) (A : Option Addr) (c : Nat) (rs : List Rg), k ≤ 17 ∧ i = .int .i64 k ∧ o = .slice A rs.length c ∧ rs.length ≤ k ∧ Hid (OwnRs wr w.heap.size A c rs) ∧ Hid (Rd wr r (N + 31 + 2 * k)) ∧ Hid (w.grownBy wr (some r))) (fun _ i _ => 18 - (intOf i).toNat)
        case atStart => exact ⟨0, _, 0, [], by omega, rfl, rfl, by simp, O3.out, R3.out, G3.out⟩
        case round =>
          clear O3 R3 G3
          obtain ⟨k, A, c, rs, hk, rfl, rfl, hl, hO, hR, hG⟩ := hrel
          go_wp2_with fail
          refine (pick_any _ r (N + 31 + 2 * k) 4 hR.out (by omega) (by omega) (by omega)).mono ?_
          rintro e w4 ⟨t, rfl, ht0, ht1, hR4, hG4⟩
          have O4 := Lib.hid (hO.out.kept hG4 (by rintro j ⟨⟩; exact hrl))
          have R4 := Lib.hid hR4
          have G4 := Lib.hid (only_trans hG.out hG4)
          clear hR4 hG4 hO hR hG
          by_cases hlt : (k : Int) < 14 + t
          · go_wp2_with fail
            refine (pick_any _ r (N + 31 + 2 * k + 1) 2 R4.out (by omega) (by omega) (by omega)).mono ?_
            rintro e w5 ⟨u, rfl, hu0, hu1, hR5, hG5⟩
            have O5 := Lib.hid (O4.out.kept hG5 (by rintro j ⟨⟩; exact hrl))
            have R5 := Lib.hid hR5
            have G5 := Lib.hid (only_trans G4.out hG5)
            clear hR5 hG5 O4 R4 G4
            go_wp2_with (at_builtin; refine wpList_append_one (by rfl) (.tmp 39) (.tmp 48) (by rfl) w.heap.size A c rs (by rfl) O5.out _ (by rfl) (by rfl) (by omega) G5.out.size ?_; intro A' c' w6 qs hqs hql O6 hB6 hg6)
            have R6 := Lib.hid ((R5.out.belowB hB6.out hrl).mono (show N + 31 + 2 * k + 1 + 1 ≤ N + 31 + 2 * (k + 1) by omega))
            have G6 := Lib.hid (only_then G5.out hB6.out)
            go_wp2_with fail
            go_roundw
            case rel => exact ⟨k + 1, A', c', qs, by omega, by go_num, rfl, by rw [hql.out]; omega, O6.out, R6.out, G6.out⟩
            case measure => simp [intOf]; omega
          · have D := Lib.hid (show DrewRs w r (N + 200) (.returned (.slice A rs.length c)) w4 from ⟨A, c, rs, rfl, by omega, O4.out, R4.out.mono (by omega), G4.out⟩)
            go_wp2_with fail
            go_ret
            exact D.out
      · have D := Lib.hid (show DrewRs w r (N + 200) (.returned (.slice A rs.length c)) w2 from ⟨A, c, rs, rfl, by omega, O2.out, R2.out.mono (by omega), G2.out⟩)
        go_wp2_with fail
        go_ret
        exact D.out
def DrewSpan (w : World) (r N : Nat) (e : Ending) (w' : World) : Prop := ∃ a b : Int, e = .returned (.tuple #[.int .i64 a, .int .i64 b]) ∧ -10 ≤ a ∧ a ≤ 2000 ∧ -10 ≤ b ∧ b ≤ 2000 ∧ Rd w' r N ∧ w.grownBy w' (some r)
/-- What the drawing of a law's input gives: a list of ranges in memory of its own. -/
def SomeRs (w : World) (e : Ending) (w' : World) : Prop := ∃ A c rs, e = .returned (.slice A rs.length c) ∧ rs.length ≤ 40 ∧ OwnRs w' w.heap.size A c rs ∧ Below w.heap.size w w'
def SomeRsSpan (w : World) (e : Ending) (w' : World) : Prop := ∃ A c rs, ∃ a b : Int, e = .returned (.tuple #[.slice A rs.length c, .int .i64 a, .int .i64 b]) ∧ rs.length ≤ 40 ∧ -10 ≤ a ∧ a ≤ 2000 ∧ -10 ≤ b ∧ b ≤ 2000 ∧ OwnRs w' w.heap.size A c rs ∧ Below w.heap.size w w'
def SomeRs2 (w : World) (e : Ending) (w' : World) : Prop := ∃ A c rs A' c' ts, e = .returned (.tuple #[.slice A rs.length c, .slice A' ts.length c']) ∧ rs.length ≤ 40 ∧ ts.length ≤ 40 ∧ OwnRs w' w.heap.size A c rs ∧ OwnRs w' w.heap.size A' c' ts ∧ Below w.heap.size w w'
end Go.Proofs.Ytibnjbbiagjnjaa
