/- Slices of boxes (a key and a slice of atoms), and contracts of their validity, the program's and the reference's. No condition but that the slices read as the lists. -/
import Derived.Test.YtamddfacmmjglaaDMath
import Derived.Test.YtamddfacmmjglaaIn
import Derived.Test.YtamddfacmmjglaaIntsEq
namespace Go.Proofs.Ytamddfacmmjglaa
open Go.RowKit
set_option linter.unusedVariables false
instance : Inhabited Bx := ⟨⟨0, []⟩⟩
/-- The slice at A, as long as bs, reads as bs; what it reaches lies in blocks below B. -/
def BxIn (w : World) (B : Nat) (A : Option Addr) (bs : List Bx) : Prop :=
  0 < bs.length → ∃ b off, A = some ⟨b, off, none⟩ ∧ b < B ∧ ∀ i, i < bs.length → ∃ Ai ci, w.cell? ⟨b, off + i * 2, none⟩ = some (.int .i64 (bs.getD i ⟨0, []⟩).key) ∧
    w.cell? ⟨b, off + i * 2 + 1, none⟩ = some (.slice Ai (bs.getD i ⟨0, []⟩).ins.length ci) ∧ IntsIn w B Ai (bs.getD i ⟨0, []⟩).ins
theorem BxIn.below {w w' : World} {B : Nat} {A : Option Addr} {bs : List Bx} (h : BxIn w B A bs) (hb : Below B w w') : BxIn w' B A bs := fun h0 => by
  obtain ⟨b, off, hA, hlt, hc⟩ := h h0
  refine ⟨b, off, hA, hlt, fun i hi => ?_⟩
  obtain ⟨Ai, ci, c1, c2, c3⟩ := hc i hi
  exact ⟨Ai, ci, (hb.cell (p := ⟨b, off + i * 2, none⟩) hlt).trans c1, (hb.cell (p := ⟨b, off + i * 2 + 1, none⟩) hlt).trans c2, c3.below hb⟩
theorem BxIn.mono {w : World} {B B' : Nat} {A : Option Addr} {bs : List Bx} (h : BxIn w B A bs) (hB : B ≤ B') : BxIn w B' A bs := fun h0 => by
  obtain ⟨b, off, hA, hlt, hc⟩ := h h0
  refine ⟨b, off, hA, by omega, fun i hi => ?_⟩
  obtain ⟨Ai, ci, c1, c2, c3⟩ := hc i hi
  exact ⟨Ai, ci, c1, c2, c3.mono hB⟩
theorem BxIn.nil (w : World) (B : Nat) (A : Option Addr) : BxIn w B A [] := fun h => absurd h (by simp)
theorem all_drop_succ {xs : List Int} {k : Nat} (h : k < xs.length) : (xs.drop k).all isAtom = (isAtom (xs.getD k 0) && (xs.drop (k + 1)).all isAtom) := by
  rw [List.drop_eq_getElem_cons h, List.all_cons, List.getD_eq_getElem?_getD, List.getElem?_eq_getElem h]; rfl
theorem ball_drop_succ {bs : List Bx} {k : Nat} (h : k < bs.length) : (bs.drop k).all boxOk = (boxOk (bs.getD k ⟨0, []⟩) && (bs.drop (k + 1)).all boxOk) := by
  rw [List.drop_eq_getElem_cons h, List.all_cons, List.getD_eq_getElem?_getD, List.getElem?_eq_getElem h]; rfl
theorem iatom_is (x : Int) (w : World) (r : Bool) (h : isAtom x = r) : Calls Try.prog 23 #[.int .i64 x] w fun e w' => e = .returned (.bool r) ∧ w = w' := by
  have R := Lib.hid h
  clear h
  go_enter Try.func23, Try.ntmps23
  go_wp2_with fail
  refine (win_any x 1 20 _).mono ?_
  rintro e w' ⟨rfl, rfl⟩
  go_wp2
  go_ret
  exact ⟨ret_bool R.out, rfl⟩
theorem satom_is (x : Int) (w : World) (r : Bool) (h : isAtom x = r) : Calls Try.prog 20 #[.int .i64 x] w fun e w' => e = .returned (.bool r) ∧ w = w' := by
  have R := Lib.hid h
  clear h
  go_enter Try.func20, Try.ntmps20
  go_wp2_with fail
  refine (in_any x 1 20 _).mono ?_
  rintro e w' ⟨rfl, rfl⟩
  go_wp2
  go_ret
  exact ⟨ret_bool R.out, rfl⟩
set_option maxHeartbeats 800000 in
theorem iatoms_is (B : Nat) (A : Option Addr) (xs : List Int) (c : Nat) (w : World) (r : Bool) (h : IntsIn w B A xs) (hm : xs.length ≤ 1000000000000) (hr : xs.all isAtom = r) :
    Calls Try.prog 25 #[.slice A xs.length c] w fun e w' => e = .returned (.bool r) ∧ w = w' := by
  have H := Lib.hid h
  have R := Lib.hid hr
  clear h hr
  go_enter Try.func25, Try.ntmps25
  go_wp2_with fail
  go_loop [7] (fun i => ∃ k : Nat, k ≤ xs.length ∧ i = .int .i64 k ∧ Hid (xs.all isAtom = (xs.drop k).all isAtom)) (fun i => xs.length - (intOf i).toNat)
  case atStart => exact ⟨0, Nat.zero_le _, rfl, rfl⟩
  case round =>
    obtain ⟨k, hk, rfl, ha⟩ := hrel
    by_cases hlt : k < xs.length
    · obtain ⟨b, off, rfl, hbB, hc⟩ := H.out (by omega)
      have g1 := hc k hlt
      clear hc
      have S := Lib.hid (all_drop_succ hlt)
      generalize xs.getD k 0 = x at g1 S
      obtain ⟨q, hq⟩ : ∃ q, isAtom x = q := ⟨_, rfl⟩
      have Q := Lib.hid hq
      clear hq
      go_wp2_with fail
      refine (iatom_is x _ q Q.out).mono ?_
      rintro e w2 ⟨rfl, rfl⟩
      cases q with
      | false =>
        have D := Lib.hid (show false = r by rw [← R.out, ha.out, S.out, Q.out]; rfl)
        go_wp2
        go_ret
        exact ⟨ret_bool D.out, rfl⟩
      | true =>
        have E := Lib.hid (show xs.all isAtom = (xs.drop (k + 1)).all isAtom by rw [ha.out, S.out, Q.out]; rfl)
        go_wp2
        go_round
        case rel => exact ⟨k + 1, by omega, by go_num, E.out⟩
        case measure => simp [intOf]; omega
    · have hk' : k = xs.length := by omega
      have D := Lib.hid (show true = r by rw [← R.out, ha.out, hk', List.drop_length]; rfl)
      clear hk'
      go_wp2_with fail
      go_ret
      exact ⟨ret_bool D.out, rfl⟩
/-- What is asked of a box's number of atoms. -/
def few4 (n : Nat) : Bool := decide (1 ≤ n) && decide (n ≤ 4)
theorem few4_int (n : Nat) : (decide ((1 : Int) ≤ (n : Int)) && decide ((n : Int) ≤ 4)) = few4 n := by
  unfold few4
  have h1 : decide ((1 : Int) ≤ (n : Int)) = decide (1 ≤ n) := by congr 1; exact propext ⟨fun h => by omega, fun h => by omega⟩
  have h2 : decide ((n : Int) ≤ 4) = decide (n ≤ 4) := by congr 1; exact propext ⟨fun h => by omega, fun h => by omega⟩
  rw [h1, h2]
theorem iwin_is (n : Nat) (w : World) (r : Bool) (h : few4 n = r) : Calls Try.prog 24 #[.int .i64 (n : Int), .int .i64 1, .int .i64 4] w fun e w' => e = .returned (.bool r) ∧ w = w' :=
  (win_any n 1 4 w).mono fun _ _ ⟨he, hw⟩ => ⟨by rw [he]; exact ret_bool ((few4_int n).trans h), hw⟩
theorem sin_is (n : Nat) (w : World) (r : Bool) (h : few4 n = r) : Calls Try.prog 21 #[.int .i64 (n : Int), .int .i64 1, .int .i64 4] w fun e w' => e = .returned (.bool r) ∧ w = w' :=
  (in_any n 1 4 w).mono fun _ _ ⟨he, hw⟩ => ⟨by rw [he]; exact ret_bool ((few4_int n).trans h), hw⟩
def BPost (w : World) (b : Bool) (e : Ending) (w' : World) : Prop := e = .returned (.bool b) ∧ Below w.heap.size w w'
set_option maxHeartbeats 1600000 in
theorem ibv_any (B : Nat) (A : Option Addr) (bs : List Bx) (c : Nat) (w : World) (r : Bool) (h : BxIn w B A bs) (hBw : B ≤ w.heap.size) (hm : bs.length ≤ 2000000) (hmi : ∀ b ∈ bs, b.ins.length ≤ 1000000000000) (hr : bvalid bs = r) :
    Calls Try.prog 12 #[.slice A bs.length c] w (BPost w r) := by
  have H := Lib.hid h
  have R := Lib.hid hr
  have MI := Lib.hid (fun k (hk : k < bs.length) => hmi (bs.getD k ⟨0, []⟩) (by rw [List.getD_eq_getElem?_getD, List.getElem?_eq_getElem hk]; exact List.getElem_mem _))
  clear h hr hmi
  by_cases hl : 10 < bs.length
  · have D := Lib.hid (show false = r by rw [← R.out]; unfold bvalid; rw [decide_eq_false (by omega)]; rfl)
    go_enter Try.func12, Try.ntmps12
    go_wp2_with fail
    go_ret
    exact ⟨ret_bool D.out, Below.refl _ _⟩
  · have V := Lib.hid (show bs.all boxOk = r by rw [← R.out]; unfold bvalid; rw [decide_eq_true (show bs.length ≤ 10 by omega)]; rfl)
    go_enter Try.func12, Try.ntmps12
    go_wp2_with fail
    go_loopw [10] (fun i wr => ∃ k : Nat, k ≤ bs.length ∧ i = .int .i64 k ∧ Hid (bs.all boxOk = (bs.drop k).all boxOk) ∧ Hid (Below w.heap.size w wr)) (fun i _ => bs.length - (intOf i).toNat)
    case atStart => exact ⟨0, Nat.zero_le _, rfl, rfl, Below.refl _ _⟩
    case round =>
      obtain ⟨k, hk, rfl, ha, hB⟩ := hrel
      by_cases hlt : k < bs.length
      · obtain ⟨b, off, rfl, hbB, hcc⟩ := (H.out.below (hB.out.mono hBw)) (by omega)
        obtain ⟨Ai, ci, g1, g2, hI⟩ := hcc k hlt
        have ML := MI.out k hlt
        have S := Lib.hid (ball_drop_succ hlt)
        clear hcc
        generalize bs.getD k ⟨0, []⟩ = x at g1 g2 hI ML S
        obtain ⟨key, ins⟩ := x
        simp only at g1 g2 hI ML
        have II := Lib.hid hI
        clear hI
        have hbs : b < wr.heap.size := by have := hB.out.size; omega
        have B4 := Lib.hid (hB.out.alloc hB.out.size (.cells #[.int .i64 key, .slice Ai ins.length ci] 37))
        have I4 := Lib.hid (II.out.below (((Below.refl B wr).alloc (Nat.le_trans hBw hB.out.size) (.cells #[.int .i64 key, .slice Ai ins.length ci] 37))))
        obtain ⟨q1, hq1⟩ : ∃ q, isAtom key = q := ⟨_, rfl⟩
        obtain ⟨q2, hq2⟩ : ∃ q, few4 ins.length = q := ⟨_, rfl⟩
        obtain ⟨q3, hq3⟩ : ∃ q, ins.all isAtom = q := ⟨_, rfl⟩
        have Q1 := Lib.hid hq1
        have Q2 := Lib.hid hq2
        have Q3 := Lib.hid hq3
        have OKX := Lib.hid (show boxOk ⟨key, ins⟩ = (q1 && q2 && q3) by rw [← hq1, ← hq2, ← hq3]; rfl)
        clear hq1 hq2 hq3
        have bad := Lib.hid (fun (h : (q1 && q2 && q3) = false) => (show false = r by rw [← V.out, ha.out, S.out, OKX.out, h]; rfl))
        go_wp2_with fail
        refine (iatom_is key _ q1 Q1.out).mono ?_
        rintro e w2 ⟨rfl, rfl⟩
        cases q1 with
        | false =>
          go_wp2
          go_ret
          exact ⟨ret_bool (bad.out rfl), B4.out⟩
        | true =>
          go_wp2_with fail
          refine (iwin_is ins.length _ q2 Q2.out).mono ?_
          rintro e w2 ⟨rfl, rfl⟩
          cases q2 with
          | false =>
            go_wp2
            go_ret
            exact ⟨ret_bool (bad.out rfl), B4.out⟩
          | true =>
            go_wp2_with fail
            refine (iatoms_is B Ai ins ci _ q3 I4.out ML Q3.out).mono ?_
            rintro e w2 ⟨rfl, rfl⟩
            cases q3 with
            | false =>
              go_wp2
              go_ret
              exact ⟨ret_bool (bad.out rfl), B4.out⟩
            | true =>
              have E := Lib.hid (show bs.all boxOk = (bs.drop (k + 1)).all boxOk by rw [ha.out, S.out, OKX.out]; rfl)
              go_wp2_with fail
              go_roundw
              case rel => exact ⟨k + 1, by omega, by go_num, E.out, B4.out⟩
              case measure => simp [intOf]; omega
      · have hk' : k = bs.length := by omega
        have D := Lib.hid (show true = r by rw [← V.out, ha.out, hk', List.drop_length]; rfl)
        clear hk'
        go_wp2_with fail
        go_ret
        exact ⟨ret_bool D.out, hB.out⟩
set_option maxHeartbeats 1600000 in
theorem sbv_any (B : Nat) (A : Option Addr) (bs : List Bx) (c : Nat) (w : World) (r : Bool) (h : BxIn w B A bs) (hm : bs.length ≤ 2000000) (hmi : ∀ b ∈ bs, b.ins.length ≤ 1000000000000) (hr : bvalid bs = r) :
    Calls Try.prog 10 #[.slice A bs.length c] w fun e w' => e = .returned (.bool r) ∧ w = w' := by
  have H := Lib.hid h
  have R := Lib.hid hr
  have MI := Lib.hid (fun k (hk : k < bs.length) => hmi (bs.getD k ⟨0, []⟩) (by rw [List.getD_eq_getElem?_getD, List.getElem?_eq_getElem hk]; exact List.getElem_mem _))
  have V := Lib.hid (fun (h : bs.all boxOk = false) => (show false = r by rw [← R.out]; unfold bvalid; rw [h, Bool.and_false]))
  clear h hr hmi
  go_enter Try.func10, Try.ntmps10
  go_wp2_with fail
  go_loop [3] (fun i => ∃ k : Nat, k ≤ bs.length ∧ i = .int .i64 k ∧ Hid (bs.all boxOk = (bs.drop k).all boxOk)) (fun i => bs.length - (intOf i).toNat)
  case atStart => exact ⟨0, Nat.zero_le _, rfl, rfl⟩
  case round =>
    obtain ⟨k, hk, rfl, ha⟩ := hrel
    by_cases hlt : k < bs.length
    · obtain ⟨b, off, rfl, hbB, hcc⟩ := H.out (by omega)
      obtain ⟨Ai, ci, g1, g2, hI⟩ := hcc k hlt
      have ML := MI.out k hlt
      have S := Lib.hid (ball_drop_succ hlt)
      clear hcc
      generalize bs.getD k ⟨0, []⟩ = x at g1 g2 hI ML S
      obtain ⟨key, ins⟩ := x
      simp only at g1 g2 hI ML
      have II := Lib.hid hI
      clear hI
      obtain ⟨q1, hq1⟩ : ∃ q, isAtom key = q := ⟨_, rfl⟩
      obtain ⟨q2, hq2⟩ : ∃ q, few4 ins.length = q := ⟨_, rfl⟩
      have Q1 := Lib.hid hq1
      have Q2 := Lib.hid hq2
      have OKX := Lib.hid (show boxOk ⟨key, ins⟩ = (q1 && q2 && ins.all isAtom) by rw [← hq1, ← hq2]; rfl)
      clear hq1 hq2
      have bad := Lib.hid (fun (h : (q1 && q2 && ins.all isAtom) = false) => V.out (show bs.all boxOk = false by rw [ha.out, S.out, OKX.out, h]; rfl))
      go_wp2_with fail
      refine (satom_is key _ q1 Q1.out).mono ?_
      rintro e w2 ⟨rfl, rfl⟩
      cases q1 with
      | false =>
        go_wp2
        go_ret
        exact ⟨ret_bool (bad.out rfl), rfl⟩
      | true =>
        go_wp2_with fail
        refine (sin_is ins.length _ q2 Q2.out).mono ?_
        rintro e w2 ⟨rfl, rfl⟩
        cases q2 with
        | false =>
          go_wp2
          go_ret
          exact ⟨ret_bool (bad.out rfl), rfl⟩
        | true =>
          go_wp2_with fail
          go_loop [4] (fun i => ∃ j : Nat, j ≤ ins.length ∧ i = .int .i64 j ∧ Hid (ins.all isAtom = (ins.drop j).all isAtom)) (fun i => ins.length - (intOf i).toNat)
          case atStart => exact ⟨0, Nat.zero_le _, rfl, rfl⟩
          case round =>
            obtain ⟨j, hj, rfl, hd⟩ := hrel
            by_cases hlj : j < ins.length
            · obtain ⟨bi, oi, hAi, _, hci⟩ := II.out (by omega)
              subst hAi
              have g3 := hci j hlj
              clear hci
              have T := Lib.hid (all_drop_succ hlj)
              generalize ins.getD j 0 = y at g3 T
              obtain ⟨q, hq⟩ : ∃ q, isAtom y = q := ⟨_, rfl⟩
              have Q := Lib.hid hq
              clear hq
              go_wp2_with fail
              refine (satom_is y _ q Q.out).mono ?_
              rintro e w2 ⟨rfl, rfl⟩
              cases q with
              | false =>
                have D := Lib.hid (bad.out (by rw [hd.out, T.out, Q.out]; rfl))
                go_wp2
                go_ret
                exact ⟨ret_bool D.out, rfl⟩
              | true =>
                have E := Lib.hid (show ins.all isAtom = (ins.drop (j + 1)).all isAtom by rw [hd.out, T.out, Q.out]; rfl)
                go_wp2
                go_round
                case rel => exact ⟨j + 1, by omega, by go_num, E.out⟩
                case measure => simp [intOf]; omega
            · have hj' : j = ins.length := by omega
              have E := Lib.hid (show bs.all boxOk = (bs.drop (k + 1)).all boxOk by rw [ha.out, S.out, OKX.out, hd.out, hj', List.drop_length]; rfl)
              clear hj'
              go_wp2_with fail
              go_round
              case rel => exact ⟨k + 1, by omega, by go_num, E.out⟩
              case measure => simp [intOf]; omega
    · have hk' : k = bs.length := by omega
      have D := Lib.hid (show decide ((bs.length : Int) ≤ 10) = r by
        rw [← R.out]; unfold bvalid; rw [ha.out, hk', List.drop_length]
        have h2 : decide ((bs.length : Int) ≤ 10) = decide (bs.length ≤ 10) := by congr 1; exact propext ⟨fun h => by omega, fun h => by omega⟩
        rw [h2]; exact (Bool.and_true _).symm)
      clear hk'
      go_wp2_with fail
      go_ret
      exact ⟨ret_bool (by first | exact D.out | (rw [← D.out]; simp)), rfl⟩
end Go.Proofs.Ytamddfacmmjglaa
