/- Contracts of 'a set holds a number', the program's and the reference's. No condition but that the slice reads as the list. -/
import Derived.Test.YtclfkkapahdgaaaRValid
import Derived.Test.YtclfkkapahdgaaaIn
import Derived.Deep.QuietTactic
import Derived.BigQuiet
namespace Go.Proofs.Ytclfkkapahdgaaa
open Go.RowKit
theorem quiet_left {P : Program} {f : FuncId} {args : Array Value} {w : World} {n : Nat} {v : Value}
    (h : Calls P f args (w.drewN n) fun e w' => e = .returned v ∧ w.drewN n = w') : Calls P f args (w.drewN n) fun e w'' => e = .returned v ∧ ∃ m, w'' = w.drewN m :=
  h.mono fun _ _ ⟨he, hm⟩ => ⟨he, n, hm.symm⟩
set_option maxHeartbeats 1600000 in
theorem shas_any (B : Nat) (A : Option Addr) (rs : List Rg) (c : Nat) (x : Int) (w : World) (h : RsIn w B A rs) (hBw : B ≤ w.heap.size) (hm : rs.length ≤ 1000000000000) :
    Calls Try.prog 51 #[.slice A rs.length c, .int .i64 x] w (BoolPost w (rhas rs x)) := by
  have H := Lib.hid h
  clear h
  go_enter Try.func51, Try.ntmps51
  go_wp2_with fail
  go_loopw [5] (fun i wr => ∃ (k : Nat), k ≤ rs.length ∧ i = .int .i64 k ∧ Hid (rhas rs x = rhas (rs.drop k) x) ∧ Hid (Below w.heap.size w wr)) (fun i _ => rs.length - (intOf i).toNat)
  case atStart => exact ⟨0, Nat.zero_le _, rfl, rfl, Below.refl _ _⟩
  case round =>
    obtain ⟨k, hk, rfl, hv, hB⟩ := hrel
    by_cases hlt : k < rs.length
    · obtain ⟨b, off, rfl, hbB, hc⟩ := (H.out.below (hB.out.mono hBw)) (by omega)
      obtain ⟨g1, g2⟩ := hc k hlt
      have R := Lib.hid (rhas_drop_succ hlt x)
      have j1 : (k : Int) < (rs.length : Int) := by omega
      clear hc
      generalize rs.getD k (0, 0) = p at g1 g2 R
      obtain ⟨lo, hi⟩ := p
      simp only at g1 g2 R
      by_cases c1 : lo ≤ x ∧ x ≤ hi
      · have D := Lib.hid (show true = rhas rs x by rw [hv.out, R.out, decide_eq_true c1.1, decide_eq_true c1.2]; rfl)
        have C1 := Lib.hid c1
        clear c1
        go_wp2_with fail
        go_quiet ((go_at_call 64; exact quiet_left (in_yes _ _ _ _ C1.out)))
        go_wp2
        go_ret
        exact ⟨ret_bool D.out, below_drewN hB.out _⟩
      · have E := Lib.hid (show rhas rs x = rhas (rs.drop (k + 1)) x by
          rw [hv.out, R.out]
          have : (decide (lo ≤ x) && decide (x ≤ hi)) = false := by simp only [Bool.and_eq_false_iff, decide_eq_false_iff_not]; omega
          rw [this, Bool.false_or])
        have C1 := Lib.hid (show x < lo ∨ hi < x by omega)
        clear c1
        go_wp2_with fail
        go_quiet ((go_at_call 64; exact quiet_left (in_no _ _ _ _ C1.out)))
        go_wp2
        go_roundw
        case rel => exact ⟨k + 1, by omega, by go_num, E.out, below_drewN hB.out _⟩
        case measure => simp [intOf]; omega
    · have hk' : k = rs.length := by omega
      have D := Lib.hid (show false = rhas rs x by rw [hv.out, hk', List.drop_length]; rfl)
      clear hk'
      go_wp2_with fail
      go_ret
      exact ⟨ret_bool D.out, hB.out⟩
/-- The closure: its number x lies in the cell at g. -/
theorem clos_any (g : Nat) (x lo hi : Int) (w : World) (hx : w.cell? ⟨g, 0, none⟩ = some (.int .i64 x)) (hg : g < w.heap.size) :
    Calls Try.prog 66 #[.agg #[.int .i64 lo, .int .i64 hi], .pointer (some ⟨g, 0, none⟩)] w fun e w' => e = .returned (.bool (decide (lo ≤ x) && decide (x ≤ hi))) ∧ Below w.heap.size w w' := by
  have HB := Lib.hid ((Below.refl w.heap.size w).alloc (Nat.le_refl _))
  go_enter Try.func66, Try.ntmps66
  go_wp2_with fail
  refine (win_any x lo hi _).mono ?_
  rintro e w' ⟨rfl, rfl⟩
  go_wp2
  go_ret
  exact ⟨rfl, HB.out _⟩
set_option maxHeartbeats 1600000 in
theorem index_any (B : Nat) (A : Option Addr) (rs : List Rg) (c : Nat) (g : Nat) (x : Int) (w : World) (h : RsIn w B A rs) (hBw : B ≤ w.heap.size) (hm : rs.length ≤ 1000000000000) (hx : w.cell? ⟨g, 0, none⟩ = some (.int .i64 x)) (hg : g < w.heap.size) :
    Calls Try.prog 68 #[.slice A rs.length c, .func (.func 66) #[] #[.pointer (some ⟨g, 0, none⟩)]] w fun e w' => (∃ n : Int, e = .returned (.int .i64 n) ∧ decide (0 ≤ n) = rhas rs x) ∧ Below w.heap.size w w' := by
  have H := Lib.hid h
  clear h
  have HX := Lib.hid hx
  clear hx
  go_enter Try.func68, Try.ntmps68
  go_wp2_with fail
  go_loopw [8] (fun i wr => ∃ (k : Nat), k ≤ rs.length ∧ i = .int .i64 k ∧ Hid (rhas rs x = rhas (rs.drop k) x) ∧ Hid (Below w.heap.size w wr)) (fun i _ => rs.length - (intOf i).toNat)
  case atStart => exact ⟨0, Nat.zero_le _, rfl, rfl, Below.refl _ _⟩
  case round =>
    obtain ⟨k, hk, rfl, hv, hB⟩ := hrel
    by_cases hlt : k < rs.length
    · obtain ⟨b, off, rfl, hbB, hc⟩ := (H.out.below (hB.out.mono hBw)) (by omega)
      obtain ⟨g1, g2⟩ := hc k hlt
      have R := Lib.hid (rhas_drop_succ hlt x)
      clear hc
      generalize rs.getD k (0, 0) = p at g1 g2 R
      obtain ⟨lo, hi⟩ := p
      simp only at g1 g2 R
      have HXr := Lib.hid ((hB.out.cell (p := ⟨g, 0, none⟩) hg).trans HX.out)
      have hgr : g < wr.heap.size := by have := hB.out.size; omega
      obtain ⟨t, ht⟩ : ∃ t, (decide (lo ≤ x) && decide (x ≤ hi)) = t := ⟨_, rfl⟩
      have T := Lib.hid ht
      clear ht
      go_wp2_with fail
      have hv1 := clos_any g x lo hi wr HXr.out hgr
      rw [T.out] at hv1
      refine hv1.mono ?_
      clear hv1
      rintro e w' ⟨rfl, hB'⟩
      have HB := Lib.hid (drew2 hB.out hB')
      clear hB'
      cases t with
      | true =>
        have D := Lib.hid (show true = rhas rs x by rw [hv.out, R.out, T.out]; rfl)
        go_wp2_with fail
        go_ret
        exact ⟨⟨k, rfl, by rw [← D.out]; simp⟩, HB.out⟩
      | false =>
        have E := Lib.hid (show rhas rs x = rhas (rs.drop (k + 1)) x by rw [hv.out, R.out, T.out, Bool.false_or])
        go_wp2_with fail
        go_roundw
        case rel => exact ⟨k + 1, by omega, by go_num, E.out, HB.out⟩
        case measure => simp [intOf]; omega
    · have hk' : k = rs.length := by omega
      have D := Lib.hid (show false = rhas rs x by rw [hv.out, hk', List.drop_length]; rfl)
      clear hk'
      go_wp2_with fail
      go_ret
      exact ⟨⟨-1, rfl, by rw [← D.out]; rfl⟩, hB.out⟩
theorem cont_any (B : Nat) (A : Option Addr) (rs : List Rg) (c : Nat) (g : Nat) (x : Int) (w : World) (h : RsIn w B A rs) (hBw : B ≤ w.heap.size) (hm : rs.length ≤ 1000000000000) (hx : w.cell? ⟨g, 0, none⟩ = some (.int .i64 x)) (hg : g < w.heap.size) :
    Calls Try.prog 65 #[.slice A rs.length c, .func (.func 66) #[] #[.pointer (some ⟨g, 0, none⟩)]] w (BoolPost w (rhas rs x)) := by
  have H := Lib.hid (index_any B A rs c g x w h hBw hm hx hg)
  clear h hx
  go_enter Try.func65, Try.ntmps65
  go_wp2_with fail
  refine H.out.mono ?_
  rintro e w' ⟨⟨n, rfl, hn⟩, hB⟩
  have N := Lib.hid hn
  have HB := Lib.hid hB
  clear hn hB
  by_cases c1 : 0 ≤ n
  · go_wp2_with fail
    go_ret
    exact ⟨ret_bool ((decide_eq_true (show 0 ≤ n by omega)).symm.trans N.out), HB.out⟩
  · go_wp2_with fail
    go_ret
    exact ⟨ret_bool N.out, HB.out⟩
theorem ihas_any (B : Nat) (A : Option Addr) (rs : List Rg) (c : Nat) (x : Int) (w : World) (h : RsIn w B A rs) (hBw : B ≤ w.heap.size) (hm : rs.length ≤ 1000000000000) :
    Calls Try.prog 52 #[.slice A rs.length c, .int .i64 x] w (BoolPost w (rhas rs x)) := by
  have H := Lib.hid h
  clear h
  have HB := Lib.hid ((Below.refl w.heap.size w).alloc (Nat.le_refl _))
  have hmf : ∀ (fn : Fn) (first cap : Array Value) (w : World), (Instr.makeFunc fn first cap).run Try.prog w = .ok (.func fn first cap) w := fun _ _ _ _ => rfl
  go_enter Try.func52, Try.ntmps52
  go_wp2_with fail
  refine (cont_any B A rs c _ x _ (H.out.below ((HB.out _).mono hBw)) ?_ hm ?_ ?_).mono ?_
  · exact Nat.le_trans hBw (HB.out _).size
  · first | rfl | exact cell_new _ _ _ | (rw [cell_of_row _ _ _ _ _ _ (heap_alloc_new w _)]; rfl)
  · unfold World.alloc; rw [Array.size_push]; exact Nat.lt_succ_self _
  rintro e w' ⟨rfl, hB⟩
  have HB' := Lib.hid (drew2 (HB.out _) hB)
  clear hB
  go_wp2
  go_ret
  exact ⟨rfl, HB'.out⟩
theorem sphas_any (B : Nat) (A : Option Addr) (rs : List Rg) (c : Nat) (x : Int) (w : World) (h : RsIn w B A rs) (hBw : B ≤ w.heap.size) (hm : rs.length ≤ 1000000000000) :
    Calls Try.prog 29 #[.slice A rs.length c, .int .i64 x] w (BoolPost w (rvalid rs && rhas rs x)) := by
  have H := Lib.hid h
  clear h
  obtain ⟨ok, hok⟩ : ∃ b, rvalid rs = b := ⟨_, rfl⟩
  have OK := Lib.hid hok
  clear hok
  go_enter Try.func29, Try.ntmps29
  go_wp2_with fail
  have hv := svalid_any B A rs c w H.out hBw hm
  rw [OK.out] at hv
  with_reducible refine hv.mono ?_
  clear hv
  rintro e w1 ⟨rfl, hB⟩
  have B1 := Lib.hid hB
  clear hB
  cases ok with
  | false =>
    have D := Lib.hid (show false = (rvalid rs && rhas rs x) by rw [OK.out]; rfl)
    go_wp2
    go_ret
    exact ⟨ret_bool D.out, B1.out⟩
  | true =>
    have D := Lib.hid (show rhas rs x = (rvalid rs && rhas rs x) by rw [OK.out]; rfl)
    go_wp2_with fail
    with_reducible refine (shas_any w.heap.size A rs c x w1 ((H.out.below (B1.out.mono hBw)).mono hBw) B1.out.size hm).mono ?_
    rintro e w2 ⟨rfl, hB⟩
    have B2 := Lib.hid (drew2 B1.out hB)
    clear hB
    go_wp2
    go_ret
    exact ⟨ret_bool D.out, B2.out⟩
theorem iphas_any (B : Nat) (A : Option Addr) (rs : List Rg) (c : Nat) (x : Int) (w : World) (h : RsIn w B A rs) (hBw : B ≤ w.heap.size) (hm : rs.length ≤ 1000000000000) :
    Calls Try.prog 30 #[.slice A rs.length c, .int .i64 x] w (BoolPost w (rvalid rs && rhas rs x)) := by
  have H := Lib.hid h
  clear h
  obtain ⟨ok, hok⟩ : ∃ b, rvalid rs = b := ⟨_, rfl⟩
  have OK := Lib.hid hok
  clear hok
  go_enter Try.func30, Try.ntmps30
  go_wp2_with fail
  have hv := ivalid_any B A rs c w H.out hBw hm
  rw [OK.out] at hv
  with_reducible refine hv.mono ?_
  clear hv
  rintro e w1 ⟨rfl, hB⟩
  have B1 := Lib.hid hB
  clear hB
  cases ok with
  | false =>
    have D := Lib.hid (show false = (rvalid rs && rhas rs x) by rw [OK.out]; rfl)
    go_wp2
    go_ret
    exact ⟨ret_bool D.out, B1.out⟩
  | true =>
    have D := Lib.hid (show rhas rs x = (rvalid rs && rhas rs x) by rw [OK.out]; rfl)
    go_wp2_with fail
    with_reducible refine (ihas_any w.heap.size A rs c x w1 ((H.out.below (B1.out.mono hBw)).mono hBw) B1.out.size hm).mono ?_
    rintro e w2 ⟨rfl, hB⟩
    have B2 := Lib.hid (drew2 B1.out hB)
    clear hB
    go_wp2
    go_ret
    exact ⟨ret_bool D.out, B2.out⟩
end Go.Proofs.Ytclfkkapahdgaaa

