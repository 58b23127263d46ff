/- Contracts of the reference's adding of numbers to a set. No condition but that the list is a set and the numbers are such. -/
import Derived.Test.YtibnjbbiagjnjaaRAdd
namespace Go.Proofs.Ytibnjbbiagjnjaa
open Go.RowKit
set_option linter.unusedVariables false
/-- How far adding has come before the k-th range. -/
def AddAt (rs : List Rg) (lo hi : Int) (k : Nat) (la x y : Int) (put : Bool) (out : List Rg) : Prop :=
  rv la (rs.drop k) = true ∧ (put = true → y < la + 1 ∧ radd rs lo hi = out ++ rs.drop k) ∧ (put = false → radd rs lo hi = out ++ radd (rs.drop k) x y)
theorem rmerge_radd {rs : List Rg} {la x y : Int} (h : rv la rs = true) (hx : x ≤ la + 2) : rmerge rs x y = radd rs x y := by
  cases rs with
  | nil => rfl
  | cons r rs =>
    have k := (rv_cons _ _ _).1 h
    unfold radd
    rw [if_neg (by omega)]
theorem addAt_below {rs : List Rg} {lo hi : Int} {k : Nat} {la x y p q : Int} {put : Bool} {out : List Rg} (h : AddAt rs lo hi k la x y put out) (hd : rs.drop k = (p, q) :: rs.drop (k + 1)) (hxy : x ≤ y) (c : q < x - 1) :
    AddAt rs lo hi (k + 1) q x y put (out ++ [(p, q)]) := by
  obtain ⟨h1, h2, h3⟩ := h
  rw [hd] at h1 h2 h3
  have kk := (rv_cons _ _ _).1 h1
  simp only at kk
  refine ⟨kk.2.2.2, fun e => ?_, fun e => ?_⟩
  · have := (h2 e).1; omega
  · rw [h3 e, radd, if_pos (by simp only; omega), List.append_assoc]; rfl
theorem addAt_above {rs : List Rg} {lo hi : Int} {k : Nat} {la x y p q : Int} {put : Bool} {out : List Rg} (h : AddAt rs lo hi k la x y put out) (hd : rs.drop k = (p, q) :: rs.drop (k + 1)) (hxy : x ≤ y) (c : y + 1 < p) :
    AddAt rs lo hi (k + 1) q x y true ((out ++ (if put then [] else [(x, y)])) ++ [(p, q)]) := by
  obtain ⟨h1, h2, h3⟩ := h
  rw [hd] at h1 h2 h3
  have kk := (rv_cons _ _ _).1 h1
  simp only at kk
  refine ⟨kk.2.2.2, fun _ => ⟨by omega, ?_⟩, fun e => by cases e⟩
  cases put with
  | true => rw [(h2 rfl).2]; simp
  | false => rw [h3 rfl, radd, if_neg (by simp only; omega), rmerge, if_neg (by simp only; omega)]; simp
theorem addAt_touch {rs : List Rg} {lo hi : Int} {k : Nat} {la x y p q : Int} {put : Bool} {out : List Rg} (h : AddAt rs lo hi k la x y put out) (hd : rs.drop k = (p, q) :: rs.drop (k + 1)) (hxy : x ≤ y) (c : ¬ q < x - 1) (c2 : ¬ y + 1 < p) :
    AddAt rs lo hi (k + 1) q (if p < x then p else x) (if y < q then q else y) put out := by
  obtain ⟨h1, h2, h3⟩ := h
  rw [hd] at h1 h2 h3
  have kk := (rv_cons _ _ _).1 h1
  simp only at kk
  refine ⟨kk.2.2.2, fun e => ?_, fun e => ?_⟩
  · have := (h2 e).1; omega
  · rw [h3 e, radd, if_neg (by simp only; omega), rmerge, if_pos (by simp only; omega), if_min, if_max]
    congr 1
    exact rmerge_radd kk.2.2.2 (by simp only; omega)
theorem addAt_end {rs : List Rg} {lo hi : Int} {la x y : Int} {put : Bool} {out : List Rg} (h : AddAt rs lo hi rs.length la x y put out) : out ++ (if put then [] else [(x, y)]) = radd rs lo hi := by
  obtain ⟨h1, h2, h3⟩ := h
  rw [List.drop_length] at h2 h3
  cases put with
  | true => rw [(h2 rfl).2]; rfl
  | false => rw [h3 rfl]; rfl
theorem addAt_start {rs : List Rg} {lo hi : Int} (h : rv (-2) rs = true) : AddAt rs lo hi 0 (-2) lo hi false [] := ⟨h, (fun e => by cases e), fun _ => rfl⟩
set_option maxHeartbeats 3200000 in
theorem sadd_any (B : Nat) (A : Option Addr) (rs : List Rg) (c : Nat) (lo hi : Int) (w : World) (h : RsIn w B A rs) (hBw : B ≤ w.heap.size) (hm : rs.length ≤ 2000000)
    (hv : rv (-2) rs = true) (h0 : 0 ≤ lo) (h1 : lo ≤ hi) (h2 : hi ≤ 999) :
    Calls Try.prog 59 #[.slice A rs.length c, .int .i64 lo, .int .i64 hi] w (RowPost w (radd rs lo hi)) := by
  have H := Lib.hid h
  have HV := Lib.hid (addAt_start (lo := lo) (hi := hi) hv)
  have OE := Lib.hid (OwnRs.empty w w.heap.size (Nat.le_refl _))
  clear h hv
  go_enter Try.func59, Try.ntmps59
  go_wp2_with fail
  go_loopw [1, 2, 7, 8, 9] (fun l u o pt i wr => ∃ (k : Nat) (la x y : Int) (put : Bool) (Ao : Option Addr) (co : Nat) (out : List Rg), k ≤ rs.length ∧ i = .int .i64 k ∧ l = .int .i64 x ∧ u = .int .i64 y ∧ pt = .bool put ∧ o = .slice Ao out.length co ∧ out.length ≤ 2 * k ∧ -2 ≤ la ∧ la ≤ 999 ∧ 0 ≤ x ∧ x ≤ y ∧ y ≤ 999 ∧ Hid (AddAt rs lo hi k la x y put out) ∧ Hid (OwnRs wr w.heap.size Ao co out) ∧ Hid (Below w.heap.size w wr)) (fun _ _ _ _ i _ => rs.length - (intOf i).toNat)
  case atStart => exact ⟨0, -2, lo, hi, false, _, 0, [], Nat.zero_le _, rfl, rfl, rfl, rfl, rfl, by simp, by omega, by omega, by omega, by omega, by omega, HV.out, OE.out, (Below.refl _ _).alloc (Nat.le_refl _) _⟩
  case round =>
    obtain ⟨k, la, x, y, put, Ao, co, out, hk, rfl, rfl, rfl, rfl, rfl, hol, hla0, hla1, hx0, hxy, hy1, hat, hO, hB⟩ := hrel
    by_cases hlt : k < rs.length
    · obtain ⟨b, off, rfl, hbB, hcc⟩ := (H.out.below (hB.out.mono hBw)) (by omega)
      obtain ⟨g1, g2⟩ := hcc k hlt
      have DK := Lib.hid (drop_cons hlt)
      have R := rv_step hlt hat.out.1
      clear hcc
      obtain ⟨pq, hp⟩ : ∃ p, p = rs.getD k (0, 0) := ⟨_, rfl⟩
      have PQ := Lib.hid hp
      rw [← hp] at g1 g2 DK R
      clear hp
      obtain ⟨p, q⟩ := pq
      simp only at g1 g2 R
      obtain ⟨r1, r2, r3, _⟩ := R
      by_cases c1 : q < x - 1
      · have E := Lib.hid (addAt_below hat.out DK.out hxy c1)
        go_wp2_with (at_builtin; refine wpList_append_rq (by rfl) (.tmp 40) (.tmp 45) (by rfl) w.heap.size Ao co out (by rfl) (hO.out.alloc _) _ _ _ [(p, q)] (by rfl) (one_in _ _ _ _ rfl) (by simp only [List.length_cons, List.length_nil]; omega) (hB.out.alloc hB.out.size _).size ?_; intro A' c' w' qs hqs hql hApp)
        have B2 := Lib.hid ((hB.out.alloc hB.out.size _).trans hApp.2.1)
        have O2 := Lib.hid hApp.1
        clear hApp
        go_wp2_with fail
        go_roundw
        case rel => exact ⟨k + 1, q, x, y, put, A', c', qs, by omega, by go_num, rfl, rfl, rfl, rfl, by rw [hql.out, List.length_singleton]; omega, by omega, by omega, hx0, hxy, hy1, by rw [hqs.out]; exact E.out, O2.out, B2.out⟩
        case measure => simp [intOf]; omega
      · by_cases c2 : y + 1 < p
        · have E := Lib.hid (addAt_above hat.out DK.out hxy c2)
          cases put with
          | true =>
            go_wp2_with (at_builtin; refine wpList_append_rq (by rfl) (.tmp 64) (.tmp 69) (by rfl) w.heap.size Ao co out (by rfl) (hO.out.alloc _) _ _ _ [(p, q)] (by rfl) (one_in _ _ _ _ rfl) (by simp only [List.length_cons, List.length_nil]; omega) (hB.out.alloc hB.out.size _).size ?_; intro A' c' w' qs hqs hql hApp)
            have B2 := Lib.hid ((hB.out.alloc hB.out.size _).trans hApp.2.1)
            have O2 := Lib.hid hApp.1
            clear hApp
            go_wp2_with fail
            go_roundw
            case rel => exact ⟨k + 1, q, x, y, true, A', c', qs, by omega, by go_num, rfl, rfl, rfl, rfl, by rw [hql.out, List.length_singleton]; omega, by omega, by omega, hx0, hxy, hy1, by rw [hqs.out]; exact Lib.hid (by simpa using E.out), O2.out, B2.out⟩
            case measure => simp [intOf]; omega
          | false =>
            go_upto_region 13 with (at_builtin; refine wpList_append_rq (by rfl) (.tmp 58) (.tmp 62) (by rfl) w.heap.size Ao co out (by rfl) (hO.out.alloc _) _ _ _ [(x, y)] (by rfl) (one_in _ _ _ _ rfl) (by simp only [List.length_cons, List.length_nil]; omega) (hB.out.alloc hB.out.size _).size ?_; intro A' c' w' qs hqs hql hApp)
            have B2 := Lib.hid ((hB.out.alloc hB.out.size _).trans hApp.2.1)
            have O2 := Lib.hid hApp.1
            clear hApp g1 g2
            obtain ⟨b2, off2, hA2, _, hcc⟩ := (H.out.below (B2.out.mono hBw)) (by omega)
            injection hA2 with hA2
            injection hA2 with hA1 hA2
            subst hA1 hA2
            obtain ⟨g1, g2⟩ := hcc k hlt
            rw [← PQ.out] at g1 g2
            clear hcc
            go_wp2_with (at_builtin; refine wpList_append_rq (by rfl) (.tmp 64) (.tmp 69) (by rfl) w.heap.size A' c' qs (by rfl) (O2.out.alloc _) _ _ _ [(p, q)] (by rfl) (one_in _ _ _ _ rfl) (by rw [hql.out, List.length_singleton, List.length_singleton]; omega) (B2.out.alloc B2.out.size _).size ?_; intro A4 c4 w4 qt hqt hqtl hApp)
            have B4 := Lib.hid ((B2.out.alloc B2.out.size _).trans hApp.2.1)
            have O4 := Lib.hid hApp.1
            clear hApp
            go_wp2_with fail
            go_roundw
            case rel => exact ⟨k + 1, q, x, y, true, A4, c4, qt, by omega, by go_num, rfl, rfl, rfl, rfl, by rw [hqtl.out, hql.out, List.length_singleton, List.length_singleton]; omega, by omega, by omega, hx0, hxy, hy1, by rw [hqt.out, hqs.out]; exact E.out, O4.out, B4.out⟩
            case measure => simp [intOf]; omega
        · have E := Lib.hid (addAt_touch hat.out DK.out hxy c1 c2)
          go_wp2_with fail
          go_roundw
          case rel => exact ⟨k + 1, q, _, _, put, Ao, co, out, by omega, by go_num, rfl, rfl, rfl, rfl, by omega, by omega, by omega, by split <;> omega, by split <;> split <;> omega, by split <;> omega, E.out, hO.out, hB.out⟩
          case measure => simp [intOf]; omega
    · have hk' : k = rs.length := by omega
      subst hk'
      have E := Lib.hid (addAt_end hat.out)
      cases put with
      | true =>
        go_wp2_with fail
        go_ret
        exact ⟨Ao, co, by rw [← E.out]; simp, by rw [← E.out]; simpa using hO.out, hB.out⟩
      | false =>
        go_wp2_with (at_builtin; refine wpList_append_rq (by rfl) (.tmp 73) (.tmp 77) (by rfl) w.heap.size Ao co out (by rfl) (hO.out.alloc _) _ _ _ [(x, y)] (by rfl) (one_in _ _ _ _ rfl) (by simp only [List.length_cons, List.length_nil]; omega) (hB.out.alloc hB.out.size _).size ?_; intro A' c' w' qs hqs hql hApp)
        have B2 := Lib.hid ((hB.out.alloc hB.out.size _).trans hApp.2.1)
        have O2 := Lib.hid hApp.1
        clear hApp
        go_wp2_with fail
        go_ret
        exact ⟨A', c', by rw [← E.out]; show _ = Ending.returned (.slice A' (out ++ [(x, y)]).length c'); rw [← hqs.out]; rfl, by rw [← E.out]; show OwnRs _ _ A' c' (out ++ [(x, y)]); rw [← hqs.out]; exact O2.out, B2.out⟩
end Go.Proofs.Ytibnjbbiagjnjaa
