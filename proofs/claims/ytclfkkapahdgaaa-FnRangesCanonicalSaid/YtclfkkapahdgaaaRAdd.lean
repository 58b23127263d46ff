/- Contracts of adding numbers to a set, the program's and the reference's. No condition but that the list is a set and the numbers are such. -/
import Derived.Test.YtclfkkapahdgaaaRGaps
import Derived.Test.YtclfkkapahdgaaaRSet
import Derived.Test.YtclfkkapahdgaaaRPart
import Derived.Deep.Cut
namespace Go.Proofs.Ytclfkkapahdgaaa
open Go.RowKit
theorem drop_cons {rs : List Rg} {k : Nat} (h : k < rs.length) : rs.drop k = rs.getD k (0, 0) :: rs.drop (k + 1) := by
  rw [List.drop_eq_getElem_cons h, List.getD_eq_getElem?_getD, List.getElem?_eq_getElem h]; rfl
theorem len_snoc (xs : List Rg) (p : Rg) : (xs ++ [p]).length = xs.length + 1 := by simp
theorem if_min (a b : Int) : (if b < a then b else a) = min a b := by split <;> omega
theorem if_max (a b : Int) : (if a < b then b else a) = max a b := by split <;> omega
set_option maxHeartbeats 3200000 in
theorem iadded_any (B : Nat) (A : Option Addr) (rs : List Rg) (c : Nat) (lo hi : Int) (w : World) (h : RsIn w B A rs) (hBw : B ≤ w.heap.size) (hm : rs.length ≤ 2000000) (hc : rs.length ≤ c)
    (hv : rv (-2) rs = true) (h0 : 0 ≤ lo) (h1 : lo ≤ hi) (h2 : hi ≤ 999) :
    Calls Try.prog 55 #[.slice A rs.length c, .int .i64 lo, .int .i64 hi] w (RowPost w (radd rs lo hi)) := by
  have H := Lib.hid h
  have HV := Lib.hid hv
  have HC := Lib.hid hc
  clear h hv hc
  go_enter Try.func55, Try.ntmps55
  go_wp2_with fail
  go_loopw [7, 8] (fun o i wr => ∃ (k : Nat) (la : Int) (Ao : Option Addr) (co : Nat) (out : List Rg), k ≤ rs.length ∧ i = .int .i64 k ∧ o = .slice Ao out.length co ∧ out.length ≤ k ∧ -2 ≤ la ∧ la ≤ 999 ∧ Hid (rv la (rs.drop k) = true) ∧ Hid (radd rs lo hi = out ++ radd (rs.drop k) lo hi) ∧ Hid (OwnRs wr w.heap.size Ao co out) ∧ Hid (Below w.heap.size w wr)) (fun _ i _ => rs.length - (intOf i).toNat)
  case atStart => exact ⟨0, -2, none, 0, [], Nat.zero_le _, rfl, rfl, by simp, by omega, by omega, HV.out, rfl, OwnRs.nil _ _, Below.refl _ _⟩
  case round =>
    obtain ⟨k, la, Ao, co, out, hk, rfl, rfl, hol, hla0, hla1, hvk, hr, hO, hB⟩ := hrel
    by_cases hlt : k < rs.length
    · obtain ⟨b, off, hA, hbB, hcc⟩ := (H.out.below (hB.out.mono hBw)) (by omega)
      have HA := Lib.hid hA
      subst hA
      obtain ⟨g1, g2⟩ := hcc k hlt
      have R := rv_step hlt hvk.out
      have DK := Lib.hid (drop_cons hlt)
      clear hcc
      obtain ⟨p, hp⟩ : ∃ p, p = rs.getD k (0, 0) := ⟨_, rfl⟩
      rw [← hp] at g1 g2 R DK
      clear hp
      obtain ⟨x, y⟩ := p
      simp only at g1 g2 R
      obtain ⟨r1, r2, r3, r4⟩ := R
      have R4 := Lib.hid r4
      clear r4
      by_cases c1 : y + 1 < lo
      · have E := Lib.hid (show radd rs lo hi = (out ++ [(x, y)]) ++ radd (rs.drop (k + 1)) lo hi by
          rw [hr.out, DK.out, radd, if_pos c1, List.append_assoc]; rfl)
        go_wp2_with (at_builtin; refine wpList_append_rq (by rfl) (.tmp 25) (.tmp 30) (by rfl) w.heap.size Ao co out (by rfl) (hO.out.alloc _) _ _ _ [(x, y)] (by rfl) (one_in _ _ _ _ rfl) (by simp only [List.length_cons, List.length_nil]; omega) (hB.out.alloc hB.out.size _).size ?_; intro A' c' w' qs hqs hql hApp)
        have B2 := Lib.hid ((hB.out.alloc hB.out.size _).trans hApp.2.1)
        have O2 := Lib.hid hApp.1
        clear hApp
        go_wp2_with fail
        go_roundw
        case rel => exact ⟨k + 1, y, A', c', qs, by omega, by go_num, rfl, by rw [hql.out, List.length_singleton]; omega, by omega, by omega, R4.out, by rw [hqs.out]; exact E.out, O2.out, B2.out⟩
        case measure => simp [intOf]; omega
      · have E0 := Lib.hid (show radd rs lo hi = out ++ rmerge (rs.drop k) lo hi by
          rw [hr.out, DK.out, radd, if_neg c1])
        go_wp2_with fail
        clear g1 g2 r1 r2 r3 DK hr c1
        go_loopw [1, 2, 8] (fun l u i wq => ∃ (j : Nat) (lb x1 y1 : Int), j ≤ rs.length ∧ i = .int .i64 j ∧ l = .int .i64 x1 ∧ u = .int .i64 y1 ∧ 0 ≤ x1 ∧ x1 ≤ y1 ∧ y1 ≤ 999 ∧ -2 ≤ lb ∧ lb ≤ 999 ∧ Hid (rv lb (rs.drop j) = true) ∧ Hid (radd rs lo hi = out ++ rmerge (rs.drop j) x1 y1) ∧ Hid (OwnRs wq w.heap.size Ao co out) ∧ Hid (Below w.heap.size w wq)) (fun _ _ i _ => rs.length - (intOf i).toNat)
        case atStart => exact ⟨k, la, lo, hi, hk, rfl, rfl, rfl, h0, h1, h2, hla0, hla1, hvk.out, E0.out, hO.out, hB.out⟩
        case round =>
          clear hO hB hvk E0 hla0 hla1
          obtain ⟨j, lb, x1, y1, hj, rfl, rfl, rfl, hx0, hxy, hy1, hlb0, hlb1, hvk, hr, hO, hB⟩ := hrel
          by_cases hlj : j < rs.length
          · obtain ⟨b', off', hA', hbB', hcc⟩ := (H.out.below (hB.out.mono hBw)) (by omega)
            first | (injection hA' with hA'; injection hA' with hA1 hA2; subst hA1 hA2) | subst hA'
            obtain ⟨g1, g2⟩ := hcc j hlj
            have R := rv_step hlj hvk.out
            have DK := Lib.hid (drop_cons hlj)
            clear hcc
            obtain ⟨p, hp⟩ : ∃ p, p = rs.getD j (0, 0) := ⟨_, rfl⟩
            rw [← hp] at g1 g2 R DK
            clear hp
            obtain ⟨x, y⟩ := p
            simp only at g1 g2 R
            obtain ⟨r1, r2, r3, r4⟩ := R
            have R4 := Lib.hid r4
            clear r4
            have j1 : (j : Int) < (rs.length : Int) := by omega
            by_cases c2 : x ≤ y1 + 1
            · have E := Lib.hid (show radd rs lo hi = out ++ rmerge (rs.drop (j + 1)) (if x < x1 then x else x1) (if y1 < y then y else y1) by
                rw [hr.out, DK.out, rmerge, if_pos c2, if_min, if_max])
              go_wp2_with fail
              go_quiet (fail)
              go_wp2_with fail
              go_roundw
              case rel => exact ⟨j + 1, y, _, _, by omega, by go_num, rfl, rfl, by split <;> omega, by split <;> split <;> omega, by split <;> omega, by omega, by omega, R4.out, E.out, hO.out.below (below_drewN (Below.refl _ _) _), below_drewN hB.out _⟩
              case measure => simp [intOf]; omega
            · have E := Lib.hid (show radd rs lo hi = (out ++ [(x1, y1)]) ++ rs.drop j by
                rw [hr.out, DK.out, rmerge, if_neg c2, List.append_assoc]; rfl)
              obtain ⟨A3, ds, hds, hdl, hsl, HA3⟩ := part_of H.out c j hj HC.out
              go_upto_region 10 with (at_builtin; refine wpList_append_rq (by rfl) (.tmp 62) (.tmp 66) (by rfl) w.heap.size Ao co out (by rfl) (hO.out.alloc _) _ _ _ [(x1, y1)] (by rfl) (one_in _ _ _ _ rfl) (by simp only [List.length_cons, List.length_nil]; omega) (hB.out.alloc hB.out.size _).size ?_; intro A' c' w' qs hqs hql hApp)
              have B2 := Lib.hid ((hB.out.alloc hB.out.size _).trans hApp.2.1)
              have O2 := Lib.hid hApp.1
              clear hApp
              go_wp2_with (at_builtin; refine wpList_append_rq (by rfl) (.tmp 68) (.tmp 71) (by rfl) w.heap.size A' c' qs (by rfl) O2.out B A3 _ ds (by rfl) (HA3.out.below (B2.out.mono hBw)) (by rw [hql.out, List.length_singleton]; omega) B2.out.size ?_; intro A4 c4 w4 qt hqt hqtl hApp)
              have B4 := Lib.hid (B2.out.trans hApp.2.1)
              have O4 := Lib.hid hApp.1
              clear hApp
              go_wp2_with fail
              go_ret
              exact ⟨A4, c4, by rw [E.out, ← hds.out, ← hqs.out, ← hqt.out]; rfl, by rw [E.out, ← hds.out, ← hqs.out, ← hqt.out]; exact O4.out, B4.out⟩
          · have E := Lib.hid (show radd rs lo hi = (out ++ [(x1, y1)]) ++ rs.drop j by
              rw [hr.out, List.drop_eq_nil_of_le (by omega), List.append_nil]; rfl)
            obtain ⟨A3, ds, hds, hdl, hsl, HA3⟩ := part_of H.out c j hj HC.out
            go_upto_region 10 with (at_builtin; refine wpList_append_rq (by rfl) (.tmp 62) (.tmp 66) (by rfl) w.heap.size Ao co out (by rfl) (hO.out.alloc _) _ _ _ [(x1, y1)] (by rfl) (one_in _ _ _ _ rfl) (by simp only [List.length_cons, List.length_nil]; omega) (hB.out.alloc hB.out.size _).size ?_; intro A' c' w' qs hqs hql hApp)
            have B2 := Lib.hid ((hB.out.alloc hB.out.size _).trans hApp.2.1)
            have O2 := Lib.hid hApp.1
            clear hApp
            go_wp2_with (at_builtin; refine wpList_append_rq (by rfl) (.tmp 68) (.tmp 71) (by rfl) w.heap.size A' c' qs (by rfl) O2.out B A3 _ ds (by rfl) (HA3.out.below (B2.out.mono hBw)) (by rw [hql.out, List.length_singleton]; omega) B2.out.size ?_; intro A4 c4 w4 qt hqt hqtl hApp)
            have B4 := Lib.hid (B2.out.trans hApp.2.1)
            have O4 := Lib.hid hApp.1
            clear hApp
            go_wp2_with fail
            go_ret
            exact ⟨A4, c4, by rw [E.out, ← hds.out, ← hqs.out, ← hqt.out]; rfl, by rw [E.out, ← hds.out, ← hqs.out, ← hqt.out]; exact O4.out, B4.out⟩
    · have E0 := Lib.hid (show radd rs lo hi = out ++ rmerge (rs.drop k) lo hi by
          rw [hr.out, List.drop_eq_nil_of_le (by omega)]; rfl)
      go_wp2_with fail
      clear hr
      go_loopw [1, 2, 8] (fun l u i wq => ∃ (j : Nat) (lb x1 y1 : Int), j ≤ rs.length ∧ i = .int .i64 j ∧ l = .int .i64 x1 ∧ u = .int .i64 y1 ∧ 0 ≤ x1 ∧ x1 ≤ y1 ∧ y1 ≤ 999 ∧ -2 ≤ lb ∧ lb ≤ 999 ∧ Hid (rv lb (rs.drop j) = true) ∧ Hid (radd rs lo hi = out ++ rmerge (rs.drop j) x1 y1) ∧ Hid (OwnRs wq w.heap.size Ao co out) ∧ Hid (Below w.heap.size w wq)) (fun _ _ i _ => rs.length - (intOf i).toNat)
      case atStart => exact ⟨k, la, lo, hi, hk, rfl, rfl, rfl, h0, h1, h2, hla0, hla1, hvk.out, E0.out, hO.out, hB.out⟩
      case round =>
        clear hO hB hvk E0 hla0 hla1
        obtain ⟨j, lb, x1, y1, hj, rfl, rfl, rfl, hx0, hxy, hy1, hlb0, hlb1, hvk, hr, hO, hB⟩ := hrel
        by_cases hlj : j < rs.length
        · obtain ⟨b', off', hA', hbB', hcc⟩ := (H.out.below (hB.out.mono hBw)) (by omega)
          first | (injection hA' with hA'; injection hA' with hA1 hA2; subst hA1 hA2) | subst hA'
          obtain ⟨g1, g2⟩ := hcc j hlj
          have R := rv_step hlj hvk.out
          have DK := Lib.hid (drop_cons hlj)
          clear hcc
          obtain ⟨p, hp⟩ : ∃ p, p = rs.getD j (0, 0) := ⟨_, rfl⟩
          rw [← hp] at g1 g2 R DK
          clear hp
          obtain ⟨x, y⟩ := p
          simp only at g1 g2 R
          obtain ⟨r1, r2, r3, r4⟩ := R
          have R4 := Lib.hid r4
          clear r4
          have j1 : (j : Int) < (rs.length : Int) := by omega
          by_cases c2 : x ≤ y1 + 1
          · have E := Lib.hid (show radd rs lo hi = out ++ rmerge (rs.drop (j + 1)) (if x < x1 then x else x1) (if y1 < y then y else y1) by
              rw [hr.out, DK.out, rmerge, if_pos c2, if_min, if_max])
            go_wp2_with fail
            go_quiet (fail)
            go_wp2_with fail
            go_roundw
            case rel => exact ⟨j + 1, y, _, _, by omega, by go_num, rfl, rfl, by split <;> omega, by split <;> split <;> omega, by split <;> omega, by omega, by omega, R4.out, E.out, hO.out.below (below_drewN (Below.refl _ _) _), below_drewN hB.out _⟩
            case measure => simp [intOf]; omega
          · have E := Lib.hid (show radd rs lo hi = (out ++ [(x1, y1)]) ++ rs.drop j by
              rw [hr.out, DK.out, rmerge, if_neg c2, List.append_assoc]; rfl)
            obtain ⟨A3, ds, hds, hdl, hsl, HA3⟩ := part_of H.out c j hj HC.out
            go_upto_region 10 with (at_builtin; refine wpList_append_rq (by rfl) (.tmp 62) (.tmp 66) (by rfl) w.heap.size Ao co out (by rfl) (hO.out.alloc _) _ _ _ [(x1, y1)] (by rfl) (one_in _ _ _ _ rfl) (by simp only [List.length_cons, List.length_nil]; omega) (hB.out.alloc hB.out.size _).size ?_; intro A' c' w' qs hqs hql hApp)
            have B2 := Lib.hid ((hB.out.alloc hB.out.size _).trans hApp.2.1)
            have O2 := Lib.hid hApp.1
            clear hApp
            go_wp2_with (at_builtin; refine wpList_append_rq (by rfl) (.tmp 68) (.tmp 71) (by rfl) w.heap.size A' c' qs (by rfl) O2.out B A3 _ ds (by rfl) (HA3.out.below (B2.out.mono hBw)) (by rw [hql.out, List.length_singleton]; omega) B2.out.size ?_; intro A4 c4 w4 qt hqt hqtl hApp)
            have B4 := Lib.hid (B2.out.trans hApp.2.1)
            have O4 := Lib.hid hApp.1
            clear hApp
            go_wp2_with fail
            go_ret
            exact ⟨A4, c4, by rw [E.out, ← hds.out, ← hqs.out, ← hqt.out]; rfl, by rw [E.out, ← hds.out, ← hqs.out, ← hqt.out]; exact O4.out, B4.out⟩
        · have E := Lib.hid (show radd rs lo hi = (out ++ [(x1, y1)]) ++ rs.drop j by
            rw [hr.out, List.drop_eq_nil_of_le (by omega), List.append_nil]; rfl)
          obtain ⟨A3, ds, hds, hdl, hsl, HA3⟩ := part_of H.out c j hj HC.out
          go_upto_region 10 with (at_builtin; refine wpList_append_rq (by rfl) (.tmp 62) (.tmp 66) (by rfl) w.heap.size Ao co out (by rfl) (hO.out.alloc _) _ _ _ [(x1, y1)] (by rfl) (one_in _ _ _ _ rfl) (by simp only [List.length_cons, List.length_nil]; omega) (hB.out.alloc hB.out.size _).size ?_; intro A' c' w' qs hqs hql hApp)
          have B2 := Lib.hid ((hB.out.alloc hB.out.size _).trans hApp.2.1)
          have O2 := Lib.hid hApp.1
          clear hApp
          go_wp2_with (at_builtin; refine wpList_append_rq (by rfl) (.tmp 68) (.tmp 71) (by rfl) w.heap.size A' c' qs (by rfl) O2.out B A3 _ ds (by rfl) (HA3.out.below (B2.out.mono hBw)) (by rw [hql.out, List.length_singleton]; omega) B2.out.size ?_; intro A4 c4 w4 qt hqt hqtl hApp)
          have B4 := Lib.hid (B2.out.trans hApp.2.1)
          have O4 := Lib.hid hApp.1
          clear hApp
          go_wp2_with fail
          go_ret
          exact ⟨A4, c4, by rw [E.out, ← hds.out, ← hqs.out, ← hqt.out]; rfl, by rw [E.out, ← hds.out, ← hqs.out, ← hqt.out]; exact O4.out, B4.out⟩
end Go.Proofs.Ytclfkkapahdgaaa
