/- Contracts of removing numbers from a set, the program's and the reference's. No condition but that the slice reads as the list. -/
import Derived.Test.YtclfkkapahdgaaaRAddAll
namespace Go.Proofs.Ytclfkkapahdgaaa
open Go.RowKit
set_option linter.unusedVariables false
def remOf (rs : List Rg) (lo hi : Int) : List Rg × Bool := if rvalid rs && span lo hi then few (rrem rs lo hi) else ([], false)
theorem far_cell {a b : World} {B : Nat} {A : Option Addr} {n c : Nat} {out : List Rg} {p : Addr} (h : a.grownBy b (Value.slice A n c).ownBlock) (hp : p.block < a.heap.size) (hne : ∀ k, (Value.slice A n c).ownBlock = some k → k ≠ p.block) : b.cell? p = a.cell? p :=
  World.cell?_of_block (h.block p.block hp (fun e => hne _ e.symm rfl))
/-- The pieces that stay of the k-th range. -/
def lowPart (x y lo : Int) : List Rg := if x < lo then [(x, if lo - 1 < y then lo - 1 else y)] else []
def highPart (x y hi : Int) : List Rg := if hi < y then [(if x < hi + 1 then hi + 1 else x, y)] else []
theorem rrem_step {rs : List Rg} {lo hi x y : Int} {k : Nat} (hd : rs.drop k = (x, y) :: rs.drop (k + 1)) : rrem (rs.drop k) lo hi = lowPart x y lo ++ (highPart x y hi ++ rrem (rs.drop (k + 1)) lo hi) := by
  rw [hd, rrem]; unfold lowPart highPart; rw [if_min, if_max]
theorem lowPart_yes {x y lo : Int} (h : x < lo) : lowPart x y lo = [(x, if lo - 1 < y then lo - 1 else y)] := if_pos h
theorem lowPart_no {x y lo : Int} (h : ¬ x < lo) : lowPart x y lo = [] := if_neg h
theorem highPart_yes {x y hi : Int} (h : hi < y) : highPart x y hi = [(if x < hi + 1 then hi + 1 else x, y)] := if_pos h
theorem highPart_no {x y hi : Int} (h : ¬ hi < y) : highPart x y hi = [] := if_neg h
theorem new_two (w : World) (a b : Value) (t : TypeId) : (w.alloc (.cells #[a, b] t)).cell? ⟨w.heap.size, 0, none⟩ = some a ∧ (w.alloc (.cells #[a, b] t)).cell? ⟨w.heap.size, 1, none⟩ = some b := by
  constructor
  · rw [cell_of_row _ _ _ _ _ _ (heap_alloc_new w _)]; rfl
  · rw [cell_of_row _ _ _ _ _ _ (heap_alloc_new w _)]; rfl
/-- What was laid just before an append onto a row of the call's own is there behind it. -/
theorem kept_two {w w' : World} {A : Option Addr} {n c : Nat} {a b : Value} {t : TypeId} {o : Obj} (h : ((w.alloc (.cells #[a, b] t)).alloc o).grownBy w' (Value.slice A n c).ownBlock) (hb : ∀ k, (Value.slice A n c).ownBlock = some k → k < w.heap.size) :
    w'.cell? ⟨w.heap.size, 0, none⟩ = some a ∧ w'.cell? ⟨w.heap.size, 1, none⟩ = some b := by
  have hlt : w.heap.size < (w.alloc (.cells #[a, b] t)).heap.size := by simp
  have hlt2 : w.heap.size < ((w.alloc (.cells #[a, b] t)).alloc o).heap.size := by simp; omega
  have hn := new_two w a b t
  have k : ∀ j, w'.cell? ⟨w.heap.size, j, none⟩ = (w.alloc (.cells #[a, b] t)).cell? ⟨w.heap.size, j, none⟩ := fun j =>
    (World.cell?_of_block (h.block w.heap.size hlt2 (fun e => by have := hb _ e.symm; omega))).trans (World.cell?_alloc_lt (w.alloc (.cells #[a, b] t)) o ⟨w.heap.size, j, none⟩ hlt)
  exact ⟨(k 0).trans hn.1, (k 1).trans hn.2⟩
set_option maxHeartbeats 3200000 in
theorem irem_any (B : Nat) (A : Option Addr) (rs : List Rg) (c : Nat) (lo hi : Int) (w : World) (h : RsIn w B A rs) (hBw : B ≤ w.heap.size) (hm : rs.length ≤ 2000000)
    (hv : rv (-2) rs = true) (h0 : 0 ≤ lo) (h1 : lo ≤ hi) (h2 : hi ≤ 999) :
    Calls Try.prog 58 #[.slice A rs.length c, .int .i64 lo, .int .i64 hi] w (RowPost w (rrem rs lo hi)) := by
  have H := Lib.hid h
  have HV := Lib.hid hv
  clear h hv
  go_enter Try.func58, Try.ntmps58
  go_wp2_with fail
  go_loopw [7, 12] (fun o i wr => ∃ (k : Nat) (la : Int) (Ao : Option Addr) (co : Nat) (out : List Rg), k ≤ rs.length ∧ i = .int .i64 k ∧ o = .slice Ao out.length co ∧ out.length ≤ 2 * k ∧ -2 ≤ la ∧ la ≤ 999 ∧ Hid (rv la (rs.drop k) = true) ∧ Hid (rrem rs lo hi = out ++ rrem (rs.drop k) lo hi) ∧ Hid (OwnRs wr w.heap.size Ao co out) ∧ Hid (Below w.heap.size w wr)) (fun _ i _ => rs.length - (intOf i).toNat)
  case atStart => exact ⟨0, -2, none, 0, [], Nat.zero_le _, rfl, rfl, by simp, by omega, by omega, HV.out, rfl, OwnRs.nil _ _, Below.refl _ _⟩
  case round =>
    obtain ⟨k, la, Ao, co, out, hk, rfl, rfl, hol, hla0, hla1, hvk, hr, hO, hB⟩ := hrel
    by_cases hlt : k < rs.length
    · obtain ⟨b, off, rfl, hbB, hcc⟩ := (H.out.below (hB.out.mono hBw)) (by omega)
      obtain ⟨g1, g2⟩ := hcc k hlt
      have DK := Lib.hid (drop_cons hlt)
      have R := rv_step hlt hvk.out
      clear hcc
      obtain ⟨pq, hp⟩ : ∃ p, p = rs.getD k (0, 0) := ⟨_, rfl⟩
      rw [← hp] at g1 g2 DK R
      clear hp
      obtain ⟨x, y⟩ := pq
      simp only at g1 g2 R
      obtain ⟨r1, r2, r3, r4⟩ := R
      have R4 := Lib.hid r4
      clear r4
      have E := Lib.hid (show rrem rs lo hi = (out ++ lowPart x y lo) ++ (highPart x y hi ++ rrem (rs.drop (k + 1)) lo hi) by rw [hr.out, rrem_step DK.out, List.append_assoc])
      have hbs : b < wr.heap.size := by have := hB.out.size; omega
      have OB := Lib.hid (fun j (hj : (Value.slice Ao out.length co).ownBlock = some j) => (World.ownsRow.lt hO.out j hj).2)
      have B1 := Lib.hid (hB.out.alloc hB.out.size (.cells #[.int .i64 x, .int .i64 y] 38))
      have O1 := Lib.hid (hO.out.alloc (.cells #[.int .i64 x, .int .i64 y] 38))
      by_cases c1 : x < lo
      · by_cases c2 : hi < y
        · go_upto_region 7 with (at_builtin; refine wpList_append_one (by rfl) (.tmp 20) (.tmp 29) (by rfl) w.heap.size Ao co out (by rfl) O1.out _ (by rfl) (by simp) (by omega) B1.out.size ?_; intro A' c' w' qs hqs hql O2 hB2 hg2)
          have B2 := Lib.hid (B1.out.trans hB2.out)
          have Q1 := Lib.hid (show qs = out ++ lowPart x y lo by rw [hqs.out, lowPart_yes (x := x) (y := y) (lo := lo) (by omega)] <;> first | rfl | rw [if_pos (by omega)] | rw [if_neg (by omega)])
          obtain ⟨f1, f2⟩ := kept_two hg2.out OB.out
          have hz := (show wr.heap.size < w'.heap.size by have := hg2.out.size; simp at this; omega)
          go_wp2_with (at_builtin; refine wpList_append_one (by rfl) (.tmp 35) (.tmp 44) (by rfl) w.heap.size A' c' qs (by rfl) O2.out _ (by rfl) (by rfl) (by rw [hql.out]; omega) B2.out.size ?_; intro A4 c4 w4 qt hqt hqtl O4 hB4 hg4)
          have B4 := Lib.hid (B2.out.trans hB4.out)
          have Q2 := Lib.hid (show qt = qs ++ highPart x y hi by rw [hqt.out, highPart_yes (x := x) (y := y) (hi := hi) (by omega)] <;> first | rfl | rw [if_pos (by omega)] | rw [if_neg (by omega)])
          have E2 := Lib.hid (show rrem rs lo hi = qt ++ rrem (rs.drop (k + 1)) lo hi by rw [E.out, ← Q1.out, ← List.append_assoc, ← Q2.out])
          go_wp2_with fail
          go_roundw
          case rel => exact ⟨k + 1, y, A4, c4, qt, by omega, by go_num, rfl, by rw [hqtl.out, hql.out]; omega, by omega, by omega, R4.out, E2.out, O4.out, B4.out⟩
          case measure => simp [intOf]; omega
        · go_upto_region 7 with (at_builtin; refine wpList_append_one (by rfl) (.tmp 20) (.tmp 29) (by rfl) w.heap.size Ao co out (by rfl) O1.out _ (by rfl) (by simp) (by omega) B1.out.size ?_; intro A' c' w' qs hqs hql O2 hB2 hg2)
          have B2 := Lib.hid (B1.out.trans hB2.out)
          have Q1 := Lib.hid (show qs = out ++ lowPart x y lo by rw [hqs.out, lowPart_yes (x := x) (y := y) (lo := lo) (by omega)] <;> first | rfl | rw [if_pos (by omega)] | rw [if_neg (by omega)])
          obtain ⟨f1, f2⟩ := kept_two hg2.out OB.out
          have E2 := Lib.hid (show rrem rs lo hi = qs ++ rrem (rs.drop (k + 1)) lo hi by rw [E.out, ← Q1.out, highPart_no (x := x) (y := y) (hi := hi) (by omega)]; rfl)
          go_wp2_with fail
          go_roundw
          case rel => exact ⟨k + 1, y, A', c', qs, by omega, by go_num, rfl, by rw [hql.out]; omega, by omega, by omega, R4.out, E2.out, O2.out, B2.out⟩
          case measure => simp [intOf]; omega
      · by_cases c2 : hi < y
        · go_wp2_with (at_builtin; refine wpList_append_one (by rfl) (.tmp 35) (.tmp 44) (by rfl) w.heap.size Ao co out (by rfl) O1.out _ (by rfl) (by simp) (by omega) B1.out.size ?_; intro A' c' w' qs hqs hql O2 hB2 hg2)
          have B2 := Lib.hid (B1.out.trans hB2.out)
          have Q2 := Lib.hid (show qs = out ++ highPart x y hi by rw [hqs.out, highPart_yes (x := x) (y := y) (hi := hi) (by omega)] <;> first | rfl | rw [if_pos (by omega)] | rw [if_neg (by omega)])
          have E2 := Lib.hid (show rrem rs lo hi = qs ++ rrem (rs.drop (k + 1)) lo hi by rw [E.out, lowPart_no (x := x) (y := y) (lo := lo) (by omega), List.append_nil, ← List.append_assoc, ← Q2.out])
          go_wp2_with fail
          go_roundw
          case rel => exact ⟨k + 1, y, A', c', qs, by omega, by go_num, rfl, by rw [hql.out]; omega, by omega, by omega, R4.out, E2.out, O2.out, B2.out⟩
          case measure => simp [intOf]; omega
        · have E2 := Lib.hid (show rrem rs lo hi = out ++ rrem (rs.drop (k + 1)) lo hi by rw [E.out, lowPart_no (x := x) (y := y) (lo := lo) (by omega), highPart_no (x := x) (y := y) (hi := hi) (by omega), List.append_nil]; rfl)
          go_wp2_with fail
          go_roundw
          case rel => exact ⟨k + 1, y, Ao, co, out, by omega, by go_num, rfl, by omega, by omega, by omega, R4.out, E2.out, O1.out, B1.out⟩
          case measure => simp [intOf]; omega
    · have hk' : k = rs.length := by omega
      have D := Lib.hid (show rrem rs lo hi = out by rw [hr.out, hk', List.drop_length]; exact List.append_nil _)
      clear hk'
      go_wp2_with fail
      go_ret
      exact ⟨Ao, co, by rw [D.out]; rfl, by rw [D.out]; exact hO.out, hB.out⟩
set_option maxHeartbeats 3200000 in
theorem srem_any (B : Nat) (A : Option Addr) (rs : List Rg) (c : Nat) (lo hi : Int) (w : World) (h : RsIn w B A rs) (hBw : B ≤ w.heap.size) (hm : rs.length ≤ 2000000)
    (hv : rv (-2) rs = true) (h0 : 0 ≤ lo) (h1 : lo ≤ hi) (h2 : hi ≤ 999) :
    Calls Try.prog 57 #[.slice A rs.length c, .int .i64 lo, .int .i64 hi] w (RowPost w (rrem rs lo hi)) := by
  have H := Lib.hid h
  have HV := Lib.hid hv
  have OE := Lib.hid (OwnRs.empty w w.heap.size (Nat.le_refl _))
  have s1 := IntWalk.i64_in (lo - 1) (by omega)
  have s2 := IntWalk.i64_in (hi + 1) (by omega)
  clear h hv
  go_enter Try.func57, Try.ntmps57
  go_wp2_with fail
  go_loopw [7, 8] (fun o i wr => ∃ (k : Nat) (la : Int) (Ao : Option Addr) (co : Nat) (out : List Rg), k ≤ rs.length ∧ i = .int .i64 k ∧ o = .slice Ao out.length co ∧ out.length ≤ 2 * k ∧ -2 ≤ la ∧ la ≤ 999 ∧ Hid (rv la (rs.drop k) = true) ∧ Hid (rrem rs lo hi = out ++ rrem (rs.drop k) lo hi) ∧ Hid (OwnRs wr w.heap.size Ao co out) ∧ Hid (Below w.heap.size w wr)) (fun _ i _ => rs.length - (intOf i).toNat)
  case atStart => exact ⟨0, -2, _, 0, [], Nat.zero_le _, rfl, rfl, by simp, by omega, by omega, HV.out, rfl, OE.out, (Below.refl _ _).alloc (Nat.le_refl _) _⟩
  case round =>
    obtain ⟨k, la, Ao, co, out, hk, rfl, rfl, hol, hla0, hla1, hvk, hr, hO, hB⟩ := hrel
    by_cases hlt : k < rs.length
    · obtain ⟨b, off, rfl, hbB, hcc⟩ := (H.out.below (hB.out.mono hBw)) (by omega)
      obtain ⟨g1, g2⟩ := hcc k hlt
      have DK := Lib.hid (drop_cons hlt)
      have R := rv_step hlt hvk.out
      clear hcc
      obtain ⟨pq, hp⟩ : ∃ p, p = rs.getD k (0, 0) := ⟨_, rfl⟩
      rw [← hp] at g1 g2 DK R
      clear hp
      obtain ⟨x, y⟩ := pq
      simp only at g1 g2 R
      obtain ⟨r1, r2, r3, r4⟩ := R
      have R4 := Lib.hid r4
      clear r4
      have E := Lib.hid (show rrem rs lo hi = (out ++ lowPart x y lo) ++ (highPart x y hi ++ rrem (rs.drop (k + 1)) lo hi) by rw [hr.out, rrem_step DK.out, List.append_assoc])
      have hbw : b < w.heap.size := by omega
      have j1 : (k : Int) < (rs.length : Int) := by omega
      by_cases c1 : x < lo
      · by_cases c2 : hi < y
        · go_wp2_with fail
          go_region_held3 (fun w' => w'.cell? ⟨b, off + k * 2, none⟩ = some (.int .i64 x) ∧ w'.cell? ⟨b, off + k * 2 + 1, none⟩ = some (.int .i64 y)) (first | go_keep | (exact ⟨(hX.cell (p := ⟨b, off + k * 2, none⟩) hbw).trans g1, (hX.cell (p := ⟨b, off + k * 2 + 1, none⟩) hbw).trans g2⟩)) ((first | (refine step_append_one (by rfl) _ _ (by rfl) w.heap.size Ao co out (by rfl) (hO.out.below (Below.refl _ _).drew) _ (by rfl) (by first | rfl | simp) (by omega) hB.out.drew.size ?_; intro A' c' w' qs hqs hql O2 hB2 hg2; have hX := (Below.refl w.heap.size wr).drew.trans hB2.out)))
          obtain ⟨f1, f2⟩ := And.intro ((hX.cell (p := ⟨b, off + k * 2, none⟩) hbw).trans g1) ((hX.cell (p := ⟨b, off + k * 2 + 1, none⟩) hbw).trans g2)
          clear g1 g2 hX
          have B2 := Lib.hid (hB.out.drew.trans hB2.out)
          have Q1 := Lib.hid (show qs = out ++ lowPart x y lo by rw [hqs.out, lowPart_yes (x := x) (y := y) (lo := lo) (by omega)] <;> first | rfl | rw [if_pos (by omega)] | rw [if_neg (by omega)])
          go_wp2_with fail
          go_region_held3 (fun w' => w'.cell? ⟨b, off + k * 2, none⟩ = some (.int .i64 x) ∧ w'.cell? ⟨b, off + k * 2 + 1, none⟩ = some (.int .i64 y)) (first | go_keep | (exact ⟨(hX.cell (p := ⟨b, off + k * 2, none⟩) hbw).trans f1, (hX.cell (p := ⟨b, off + k * 2 + 1, none⟩) hbw).trans f2⟩)) ((first | (refine step_append_one (by rfl) _ _ (by rfl) w.heap.size A' c' qs (by rfl) (O2.out.below (Below.refl _ _).drew) _ (by rfl) (by first | rfl | simp) (by rw [hql.out]; omega) B2.out.drew.size ?_; intro A4 c4 w4 qt hqt hqtl O4 hB4 hg4; have hX := (Below.refl w.heap.size w').drew.trans hB4.out)))
          have B4 := Lib.hid (B2.out.drew.trans hB4.out)
          clear hX
          have Q2 := Lib.hid (show qt = qs ++ highPart x y hi by rw [hqt.out, highPart_yes (x := x) (y := y) (hi := hi) (by omega)] <;> first | rfl | rw [if_pos (by omega)] | rw [if_neg (by omega)])
          have E2 := Lib.hid (show rrem rs lo hi = qt ++ rrem (rs.drop (k + 1)) lo hi by rw [E.out, ← Q1.out, ← List.append_assoc, ← Q2.out])
          go_wp2_with fail
          go_roundw
          case rel => exact ⟨k + 1, y, A4, c4, qt, by omega, by go_num, rfl, by rw [hqtl.out, hql.out]; omega, by omega, by omega, R4.out, E2.out, O4.out, B4.out⟩
          case measure => simp [intOf]; omega
        · go_wp2_with fail
          go_region_held3 (fun w' => w'.cell? ⟨b, off + k * 2, none⟩ = some (.int .i64 x) ∧ w'.cell? ⟨b, off + k * 2 + 1, none⟩ = some (.int .i64 y)) (first | go_keep | (exact ⟨(hX.cell (p := ⟨b, off + k * 2, none⟩) hbw).trans g1, (hX.cell (p := ⟨b, off + k * 2 + 1, none⟩) hbw).trans g2⟩)) ((first | (refine step_append_one (by rfl) _ _ (by rfl) w.heap.size Ao co out (by rfl) (hO.out.below (Below.refl _ _).drew) _ (by rfl) (by first | rfl | simp) (by omega) hB.out.drew.size ?_; intro A' c' w' qs hqs hql O2 hB2 hg2; have hX := (Below.refl w.heap.size wr).drew.trans hB2.out)))
          obtain ⟨f1, f2⟩ := And.intro ((hX.cell (p := ⟨b, off + k * 2, none⟩) hbw).trans g1) ((hX.cell (p := ⟨b, off + k * 2 + 1, none⟩) hbw).trans g2)
          clear g1 g2 hX
          have B2 := Lib.hid (hB.out.drew.trans hB2.out)
          have Q1 := Lib.hid (show qs = out ++ lowPart x y lo by rw [hqs.out, lowPart_yes (x := x) (y := y) (lo := lo) (by omega)] <;> first | rfl | rw [if_pos (by omega)] | rw [if_neg (by omega)])
          have E2 := Lib.hid (show rrem rs lo hi = qs ++ rrem (rs.drop (k + 1)) lo hi by rw [E.out, ← Q1.out, highPart_no (x := x) (y := y) (hi := hi) (by omega)]; rfl)
          go_wp2_with fail
          go_roundw
          case rel => exact ⟨k + 1, y, A', c', qs, by omega, by go_num, rfl, by rw [hql.out]; omega, by omega, by omega, R4.out, E2.out, O2.out, B2.out⟩
          case measure => simp [intOf]; omega
      · by_cases c2 : hi < y
        · go_wp2_with fail
          go_region_held3 (fun w' => w'.cell? ⟨b, off + k * 2, none⟩ = some (.int .i64 x) ∧ w'.cell? ⟨b, off + k * 2 + 1, none⟩ = some (.int .i64 y)) (first | go_keep | (exact ⟨(hX.cell (p := ⟨b, off + k * 2, none⟩) hbw).trans g1, (hX.cell (p := ⟨b, off + k * 2 + 1, none⟩) hbw).trans g2⟩)) ((first | (refine step_append_one (by rfl) _ _ (by rfl) w.heap.size Ao co out (by rfl) (hO.out.below (Below.refl _ _).drew) _ (by rfl) (by first | rfl | simp) (by omega) hB.out.drew.size ?_; intro A' c' w' qs hqs hql O2 hB2 hg2; have hX := (Below.refl w.heap.size wr).drew.trans hB2.out)))
          have B2 := Lib.hid (hB.out.drew.trans hB2.out)
          clear hX
          have Q2 := Lib.hid (show qs = out ++ highPart x y hi by rw [hqs.out, highPart_yes (x := x) (y := y) (hi := hi) (by omega)] <;> first | rfl | rw [if_pos (by omega)] | rw [if_neg (by omega)])
          have E2 := Lib.hid (show rrem rs lo hi = qs ++ rrem (rs.drop (k + 1)) lo hi by rw [E.out, lowPart_no (x := x) (y := y) (lo := lo) (by omega), List.append_nil, ← List.append_assoc, ← Q2.out])
          go_wp2_with fail
          go_roundw
          case rel => exact ⟨k + 1, y, A', c', qs, by omega, by go_num, rfl, by rw [hql.out]; omega, by omega, by omega, R4.out, E2.out, O2.out, B2.out⟩
          case measure => simp [intOf]; omega
        · have E2 := Lib.hid (show rrem rs lo hi = out ++ rrem (rs.drop (k + 1)) lo hi by rw [E.out, lowPart_no (x := x) (y := y) (lo := lo) (by omega), highPart_no (x := x) (y := y) (hi := hi) (by omega), List.append_nil]; rfl)
          go_wp2_with fail
          go_roundw
          case rel => exact ⟨k + 1, y, Ao, co, out, by omega, by go_num, rfl, by omega, by omega, by omega, R4.out, E2.out, hO.out, hB.out⟩
          case measure => simp [intOf]; omega
    · have hk' : k = rs.length := by omega
      have D := Lib.hid (show rrem rs lo hi = out by rw [hr.out, hk', List.drop_length]; exact List.append_nil _)
      clear hk'
      go_wp2_with fail
      go_ret
      exact ⟨Ao, co, by rw [D.out]; rfl, by rw [D.out]; exact hO.out, hB.out⟩
end Go.Proofs.Ytclfkkapahdgaaa
