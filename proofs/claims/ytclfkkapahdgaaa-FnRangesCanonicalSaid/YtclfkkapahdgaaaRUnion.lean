/- Contracts of the union of sets, the program's and the reference's. No condition but that the slices read as the lists. -/
import Derived.Test.YtclfkkapahdgaaaRAddAll
import Derived.Lib.SliceRun
namespace Go.Proofs.Ytclfkkapahdgaaa
open Go.RowKit
set_option linter.unusedVariables false
def unionOf (xs ys : List Rg) : List Rg × Bool := if rvalid xs && rvalid ys then few (rjoin xs ys) else ([], false)
theorem OwnRs.cap {w : World} {B : Nat} {A : Option Addr} {c : Nat} {rs : List Rg} (h : OwnRs w B A c rs) : rs.length ≤ c := by
  rcases h.2 with ⟨_, h0⟩ | ⟨g, cap, cur, hv, _, _, hnc, _⟩
  · omega
  · injection hv with _ _ hc
    omega
theorem rjoin_step {xs ys out : List Rg} {k : Nat} {x y : Int} (h : rjoin xs ys = rjoin out (ys.drop k)) (hd : ys.drop k = (x, y) :: ys.drop (k + 1)) : rjoin xs ys = rjoin (radd out x y) (ys.drop (k + 1)) := by
  rw [h, hd]; rfl
theorem iclone_any (B : Nat) (A : Option Addr) (rs : List Rg) (c : Nat) (w : World) (h : RsIn w B A rs) (hBw : B ≤ w.heap.size) (hm : rs.length ≤ 2000000) :
    Calls Try.prog 61 #[.slice A rs.length c] w (RowPost w rs) := by
  cases A with
  | none =>
    have hy : rs = [] := by
      cases rs with
      | nil => rfl
      | cons y ys => obtain ⟨_, _, h, _⟩ := h (by simp); cases h
    subst hy
    clear h
    have q : ∀ (W : World) (n c : Nat), (binOp .eql 25 (.slice none n c) (.slice none 0 0)).run Try.prog W = .ok (.bool true) W := fun W n c => Lib.run_eql_slice_nil W _ _ none n c 0 0 Try.underlying25
    have D := Lib.hid (show RowPost w [] (.returned (.slice none 0 0)) w from ⟨none, 0, rfl, OwnRs.nil _ _, Below.refl _ _⟩)
    go_enter Try.func61, Try.ntmps61
    go_wp2_with fail
    go_ret
    exact D.out
  | some a =>
    have H := Lib.hid h
    clear h
    have q : ∀ (W : World) (n c : Nat), (binOp .eql 25 (.slice (some a) n c) (.slice none 0 0)).run Try.prog W = .ok (.bool false) W := fun W n c => Lib.run_eql_slice_nil W _ _ (some a) n c 0 0 Try.underlying25
    have OE := Lib.hid (OwnRs.empty w w.heap.size (Nat.le_refl _))
    have B1 := Lib.hid ((Below.refl w.heap.size w).alloc (Nat.le_refl _) (.cells #[] 38))
    go_enter Try.func61, Try.ntmps61
    go_wp2_with (at_builtin; refine wpList_append_rq (by rfl) (.tmp 5) (.tmp 6) (by rfl) w.heap.size _ 0 [] (by rfl) OE.out B (some a) c rs (by rfl) (H.out.below (B1.out.mono hBw)) (by simp only [List.length_nil]; omega) B1.out.size ?_; intro A' c' w' qs hqs hql hApp)
    have B2 := Lib.hid (B1.out.trans hApp.2.1)
    have O2 := Lib.hid hApp.1
    clear hApp
    have Q := Lib.hid (show qs = rs by rw [hqs.out]; rfl)
    go_wp2_with fail
    go_ret
    exact ⟨A', c', by rw [← Q.out]; rfl, by rw [← Q.out]; exact O2.out, B2.out⟩
set_option maxHeartbeats 1600000 in
theorem iunion_any (B B' : Nat) (A A' : Option Addr) (xs ys : List Rg) (c c' : Nat) (w : World) (h : RsIn w B A xs) (h' : RsIn w B' A' ys) (hBw : B ≤ w.heap.size) (hBw' : B' ≤ w.heap.size) (hm : xs.length ≤ 2000000) (hm' : ys.length ≤ 2000000) :
    Calls Try.prog 44 #[.slice A xs.length c, .slice A' ys.length c'] w (PairPost w (unionOf xs ys)) := by
  have H := Lib.hid h
  have H' := Lib.hid h'
  clear h h'
  obtain ⟨ok, hok⟩ : ∃ b, rvalid xs = b := ⟨_, rfl⟩
  obtain ⟨sp, hsp⟩ : ∃ b, rvalid ys = b := ⟨_, rfl⟩
  have OK := Lib.hid hok
  have SP := Lib.hid hsp
  clear hok hsp
  have D := Lib.hid (show unionOf xs ys = if ok && sp then few (rjoin xs ys) else ([], false) by unfold unionOf; rw [OK.out, SP.out])
  go_enter Try.func44, Try.ntmps44
  go_wp2_with fail
  with_reducible refine (valid_of (ivalid_any B A xs c w H.out hBw (Nat.le_trans hm (by decide))) OK.out).mono ?_
  rintro e w1 ⟨rfl, hB⟩
  have B1 := Lib.hid hB
  clear hB
  cases ok with
  | false =>
    go_wp2_with fail
    go_ret2
    exact pair_none D.out B1.out
  | true =>
    go_wp2_with fail
    with_reducible refine (valid_of (ivalid_any B' A' ys c' w1 (H'.out.below (B1.out.mono hBw')) (Nat.le_trans hBw' B1.out.size) (Nat.le_trans hm' (by decide))) SP.out).mono ?_
    rintro e w2 ⟨rfl, hB⟩
    have B2 := Lib.hid (drew2 B1.out hB)
    clear hB
    cases sp with
    | false =>
      go_wp2_with fail
      go_ret2
      exact pair_none D.out B2.out
    | true =>
      have lx := rvalid_len OK.out
      have ly := rvalid_len SP.out
      go_wp2_with fail
      with_reducible refine (iclone_any B A xs c w2 (H.out.below (B2.out.mono hBw)) (Nat.le_trans hBw B2.out.size) hm).mono ?_
      intro e w3 hrow
      obtain ⟨A3, c3, qs, hq, rfl, hO, hB⟩ := row_any hrow
      have B3 := Lib.hid (drew2 B2.out hB.out)
      have O3 := Lib.hid (hO.out.mono B2.out.size)
      have Q3 := Lib.hid (show rv (-2) qs = true ∧ qs.length = xs.length ∧ rjoin xs ys = rjoin qs (ys.drop 0) by rw [hq.out]; exact ⟨rvalid_rv OK.out, rfl, rfl⟩)
      have l3 : qs.length ≤ 16 := by rw [Q3.out.2.1]; omega
      clear hO hB hrow
      go_wp2_with fail
      go_loopw [6, 21] (fun o i wr => ∃ (k : Nat) (la : Int) (Ao : Option Addr) (co : Nat) (out : List Rg), k ≤ ys.length ∧ i = .int .i64 k ∧ o = .slice Ao out.length co ∧ out.length ≤ 16 + k ∧ -2 ≤ la ∧ la ≤ 999 ∧ Hid (rv la (ys.drop k) = true) ∧ Hid (rv (-2) out = true) ∧ Hid (rjoin xs ys = rjoin out (ys.drop k)) ∧ Hid (OwnRs wr w.heap.size Ao co out) ∧ Hid (Below w.heap.size w wr)) (fun _ i _ => ys.length - (intOf i).toNat)
      case atStart => exact ⟨0, -2, A3, c3, qs, Nat.zero_le _, rfl, rfl, l3, by omega, by omega, rvalid_rv SP.out, Q3.out.1, Q3.out.2.2, O3.out, B3.out⟩
      case round =>
        clear O3 B3 Q3
        obtain ⟨k, la, Ao, co, out, hk, rfl, rfl, hol, hla0, hla1, hvk, hvo, hj, hO, hB⟩ := hrel
        by_cases hlt : k < ys.length
        · obtain ⟨b, off, rfl, hbB, hcc⟩ := (H'.out.below (hB.out.mono hBw')) (by omega)
          obtain ⟨g1, g2⟩ := hcc k hlt
          have DK := Lib.hid (drop_cons hlt)
          have R := rv_step hlt hvk.out
          clear hcc
          obtain ⟨pq, hp⟩ : ∃ p, p = ys.getD k (0, 0) := ⟨_, rfl⟩
          rw [← hp] at g1 g2 DK R
          clear hp
          obtain ⟨x, y⟩ := pq
          simp only at g1 g2 R
          obtain ⟨r1, r2, r3, r4⟩ := R
          have R4 := Lib.hid r4
          clear r4
          have J := Lib.hid (rjoin_step hj.out DK.out)
          have V := Lib.hid (radd_rv out x y (-2) hvo.out (by omega) r2 r3)
          have L := radd_len out x y
          have hbs : b < wr.heap.size := by have := hB.out.size; omega
          have B4 := Lib.hid (hB.out.alloc hB.out.size (.cells #[.int .i64 x, .int .i64 y] 38))
          have O4 := Lib.hid (hO.out.alloc (.cells #[.int .i64 x, .int .i64 y] 38))
          have CP := Lib.hid hO.out.cap
          go_wp2_with fail
          have hadd := iadded_any _ Ao out co x y (wr.alloc (.cells #[.int .i64 x, .int .i64 y] 38)) O4.out.in_ (Nat.le_refl _) (by omega) CP.out hvo.out (by omega) r2 r3
          with_reducible refine hadd.mono ?_
          clear hadd
          intro e w5 hrow
          obtain ⟨A5, c5, q5, hq5, rfl, hO5, hB5⟩ := row_any hrow
          have B5 := Lib.hid (drew2 B4.out hB5.out)
          have O5 := Lib.hid (hO5.out.mono B4.out.size)
          clear hO5 hB5 hrow
          rw [← hq5.out] at L
          have L5 := L
          clear L
          go_wp2_with fail
          go_roundw
          case rel => exact ⟨k + 1, y, A5, c5, q5, by omega, by go_num, rfl, by omega, by omega, by omega, R4.out, by rw [hq5.out]; exact V.out, by rw [hq5.out]; exact J.out, O5.out, B5.out⟩
          case measure => simp [intOf]; omega
        · have hk' : k = ys.length := by omega
          have E := Lib.hid (show unionOf xs ys = few out by rw [D.out, hj.out, hk', List.drop_length]; rfl)
          clear hk'
          by_cases hl : out.length ≤ 16
          · have D2 := Lib.hid (show unionOf xs ys = (out, true) by rw [E.out]; exact few_le hl)
            go_wp2_with fail
            with_reducible refine (few_yes Ao out.length co wr hl).mono ?_
            rintro e w3 ⟨rfl, rfl⟩
            go_wp2
            go_ret2
            exact pair_list D2.out hO.out hB.out
          · have D2 := Lib.hid (show unionOf xs ys = ([], false) by rw [E.out]; exact few_gt (by omega))
            go_wp2_with fail
            with_reducible refine (few_no Ao out.length co wr (by omega)).mono ?_
            rintro e w3 ⟨rfl, rfl⟩
            go_wp2
            go_ret2
            exact pair_none D2.out hB.out
set_option maxHeartbeats 1600000 in
theorem sunion_any (B B' : Nat) (A A' : Option Addr) (xs ys : List Rg) (c c' : Nat) (w : World) (h : RsIn w B A xs) (h' : RsIn w B' A' ys) (hBw : B ≤ w.heap.size) (hBw' : B' ≤ w.heap.size) (hm : xs.length ≤ 2000000) (hm' : ys.length ≤ 2000000) :
    Calls Try.prog 45 #[.slice A xs.length c, .slice A' ys.length c'] w (PairPost w (unionOf xs ys)) := by
  have H := Lib.hid h
  have H' := Lib.hid h'
  clear h h'
  obtain ⟨ok, hok⟩ : ∃ b, rvalid xs = b := ⟨_, rfl⟩
  obtain ⟨sp, hsp⟩ : ∃ b, rvalid ys = b := ⟨_, rfl⟩
  have OK := Lib.hid hok
  have SP := Lib.hid hsp
  clear hok hsp
  have D := Lib.hid (show unionOf xs ys = if ok && sp then few (rjoin xs ys) else ([], false) by unfold unionOf; rw [OK.out, SP.out])
  go_enter Try.func45, Try.ntmps45
  go_wp2_with fail
  with_reducible refine (valid_of (svalid_any B A xs c w H.out hBw (Nat.le_trans hm (by decide))) OK.out).mono ?_
  rintro e w1 ⟨rfl, hB⟩
  have B1 := Lib.hid hB
  clear hB
  cases ok with
  | false =>
    go_wp2_with fail
    go_ret2
    exact pair_empty D.out B1.out
  | true =>
    go_wp2_with fail
    with_reducible refine (valid_of (svalid_any B' A' ys c' w1 (H'.out.below (B1.out.mono hBw')) (Nat.le_trans hBw' B1.out.size) (Nat.le_trans hm' (by decide))) SP.out).mono ?_
    rintro e w2 ⟨rfl, hB⟩
    have B2 := Lib.hid (drew2 B1.out hB)
    clear hB
    cases sp with
    | false =>
      go_wp2_with fail
      go_ret2
      exact pair_empty D.out B2.out
    | true =>
      have lx := rvalid_len OK.out
      have ly := rvalid_len SP.out
      have OE := Lib.hid (OwnRs.empty w2 w.heap.size B2.out.size)
      have BE := Lib.hid (B2.out.alloc B2.out.size (.cells #[] 38))
      go_upto_region 4 with (at_builtin; refine wpList_append_rq (by rfl) (.tmp 17) (.tmp 18) (by rfl) w.heap.size _ 0 [] (by rfl) OE.out B A c xs (by rfl) (H.out.below (BE.out.mono hBw)) (by simp only [List.length_nil]; omega) BE.out.size ?_; intro A3 c3 w3 qs hqs hql hApp)
      have B3 := Lib.hid (BE.out.trans hApp.2.1)
      have O3 := Lib.hid hApp.1
      clear hApp
      have hq := Lib.hid (show qs = xs by rw [hqs.out]; rfl)
      have Q3 := Lib.hid (show rv (-2) qs = true ∧ qs.length = xs.length ∧ rjoin xs ys = rjoin qs (ys.drop 0) by rw [hq.out]; exact ⟨rvalid_rv OK.out, rfl, rfl⟩)
      have l3 : qs.length ≤ 16 := by rw [Q3.out.2.1]; omega
      go_wp2_with fail
      go_loopw [6, 7] (fun o i wr => ∃ (k : Nat) (la : Int) (Ao : Option Addr) (co : Nat) (out : List Rg), k ≤ ys.length ∧ i = .int .i64 k ∧ o = .slice Ao out.length co ∧ out.length ≤ 16 + k ∧ -2 ≤ la ∧ la ≤ 999 ∧ Hid (rv la (ys.drop k) = true) ∧ Hid (rv (-2) out = true) ∧ Hid (rjoin xs ys = rjoin out (ys.drop k)) ∧ Hid (OwnRs wr w.heap.size Ao co out) ∧ Hid (Below w.heap.size w wr)) (fun _ i _ => ys.length - (intOf i).toNat)
      case atStart => exact ⟨0, -2, A3, c3, qs, Nat.zero_le _, rfl, rfl, l3, by omega, by omega, rvalid_rv SP.out, Q3.out.1, Q3.out.2.2, O3.out, B3.out⟩
      case round =>
        clear O3 B3 Q3 OE BE
        obtain ⟨k, la, Ao, co, out, hk, rfl, rfl, hol, hla0, hla1, hvk, hvo, hj, hO, hB⟩ := hrel
        by_cases hlt : k < ys.length
        · obtain ⟨b, off, rfl, hbB, hcc⟩ := (H'.out.below (hB.out.mono hBw')) (by omega)
          obtain ⟨g1, g2⟩ := hcc k hlt
          have DK := Lib.hid (drop_cons hlt)
          have R := rv_step hlt hvk.out
          clear hcc
          obtain ⟨pq, hp⟩ : ∃ p, p = ys.getD k (0, 0) := ⟨_, rfl⟩
          rw [← hp] at g1 g2 DK R
          clear hp
          obtain ⟨x, y⟩ := pq
          simp only at g1 g2 R
          obtain ⟨r1, r2, r3, r4⟩ := R
          have R4 := Lib.hid r4
          clear r4
          have J := Lib.hid (rjoin_step hj.out DK.out)
          have V := Lib.hid (radd_rv out x y (-2) hvo.out (by omega) r2 r3)
          have L := radd_len out x y
          have hbs : b < w.heap.size := by omega
          have j1 : (k : Int) < (ys.length : Int) := by omega
          have hadd := fun W (hW : Below wr.heap.size wr W) => sadd_any wr.heap.size Ao out co x y W (hO.out.in_.below hW) hW.size (by omega) hvo.out (by omega) r2 r3
          have HADD := Lib.hid hadd
          clear hadd
          go_wp2_with fail
          go_region_held3 (fun w' => w'.cell? ⟨b, off + k * 2, none⟩ = some (.int .i64 x) ∧ w'.cell? ⟨b, off + k * 2 + 1, none⟩ = some (.int .i64 y)) (first | go_keep | (exact ⟨(hX.cell (p := ⟨b, off + k * 2, none⟩) hbs).trans g1, (hX.cell (p := ⟨b, off + k * 2 + 1, none⟩) hbs).trans g2⟩)) ((first | (go_at_call 59; refine (HADD.out _ (Below.refl _ _).drew).mono ?_; intro e w5 hrow; obtain ⟨A5, c5, q5, hq5, rfl, hO5, hB5⟩ := row_any hrow; have hX := (Below.refl w.heap.size wr).drew.trans (hB5.out.mono hB.out.drew.size))))
          have B5 := Lib.hid (hB.out.trans hX)
          have O5 := Lib.hid (hO5.out.mono hB.out.drew.size)
          clear hO5 hB5 hX hrow
          rw [← hq5.out] at L
          have L5 := L
          clear L
          go_wp2_with fail
          go_roundw
          case rel => exact ⟨k + 1, y, A5, c5, q5, by omega, by go_num, rfl, by omega, by omega, by omega, R4.out, by rw [hq5.out]; exact V.out, by rw [hq5.out]; exact J.out, O5.out, B5.out⟩
          case measure => simp [intOf]; omega
        · have hk' : k = ys.length := by omega
          have E := Lib.hid (show unionOf xs ys = few out by rw [D.out, hj.out, hk', List.drop_length]; rfl)
          clear hk'
          by_cases hl : out.length ≤ 16
          · have D2 := Lib.hid (show unionOf xs ys = (out, true) by rw [E.out]; exact few_le hl)
            go_wp2_with fail
            go_ret2
            exact pair_list D2.out hO.out hB.out
          · have D2 := Lib.hid (show unionOf xs ys = ([], false) by rw [E.out]; exact few_gt (by omega))
            go_wp2_with fail
            go_ret2
            exact pair_empty D2.out hB.out
end Go.Proofs.Ytclfkkapahdgaaa
