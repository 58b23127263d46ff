/- The reference's encoding of a frame: contracts of spec.l4Encode and spec.FrameEncode. No condition but that the ranges read as the list. -/
import Derived.Test.YtibnjbbiagjnjaaFElic
import Derived.Test.YtibnjbbiagjnjaaIApp
import Derived.Deep.Cut
namespace Go.Proofs.Ytibnjbbiagjnjaa
open Go.RowKit
set_option linter.unusedVariables false
/-- The variable that holds a frame, in block g. -/
def FBlk (w : World) (g : Nat) (k a b c : Int) (s : ByteArray) (A : Option Addr) (n cap : Nat) : Prop :=
  w.heap[g]? = some (.cells #[.int .i64 k, .int .i64 a, .int .i64 b, .int .i64 c, .string s, .slice A n cap] 25 (0, 0))
theorem FBlk.new (w : World) (k a b c : Int) (s : ByteArray) (A : Option Addr) (n cap : Nat) : FBlk (w.alloc (.cells #[.int .i64 k, .int .i64 a, .int .i64 b, .int .i64 c, .string s, .slice A n cap] 25)) w.heap.size k a b c s A n cap := heap_alloc_new w _
theorem FBlk.below {w w' : World} {g B : Nat} {k a b c : Int} {s : ByteArray} {A : Option Addr} {n cap : Nat} (h : FBlk w g k a b c s A n cap) (hb : Below B w w') (hg : g < B) : FBlk w' g k a b c s A n cap := (hb.block g hg).trans h
theorem FBlk.cells {w : World} {g : Nat} {k a b c : Int} {s : ByteArray} {A : Option Addr} {n cap : Nat} (h : FBlk w g k a b c s A n cap) :
    w.cell? ⟨g, 0, none⟩ = some (.int .i64 k) ∧ w.cell? ⟨g, 1, none⟩ = some (.int .i64 a) ∧ w.cell? ⟨g, 2, none⟩ = some (.int .i64 b) ∧ w.cell? ⟨g, 3, none⟩ = some (.int .i64 c) ∧ w.cell? ⟨g, 4, none⟩ = some (.string s) ∧ w.cell? ⟨g, 5, none⟩ = some (.slice A n cap) :=
  ⟨cell_of_row w g 0 _ _ _ h, cell_of_row w g 1 _ _ _ h, cell_of_row w g 2 _ _ _ h, cell_of_row w g 3 _ _ _ h, cell_of_row w g 4 _ _ _ h, cell_of_row w g 5 _ _ _ h⟩
def StrPost (w : World) (x : List UInt8) (e : Ending) (w' : World) : Prop := e = .returned (.string ⟨x.toArray⟩) ∧ Below w.heap.size w w'
/-- The two literals with which an encoding begins, laid one behind the other. -/
theorem enc_start (w0 : World) (k a b c : Int) (n g : Nat) (hg : g + 1 = w0.heap.size) :
    Hid (OwnInts ((w0.alloc (.cells #[.int .i64 k] 3)).alloc (.cells #[.int .i64 a, .int .i64 b, .int .i64 c] 3)) (g + 1) (some ⟨g + 1, 0, none⟩) 1 [k]) ∧
    Hid (IntsIn ((w0.alloc (.cells #[.int .i64 k] 3)).alloc (.cells #[.int .i64 a, .int .i64 b, .int .i64 c] 3)) (g + 1 + 1 + 1) (some ⟨g + 1 + 1, 0, none⟩) ([a, b, c].take n)) ∧
    Hid (Below (g + 1) w0 ((w0.alloc (.cells #[.int .i64 k] 3)).alloc (.cells #[.int .i64 a, .int .i64 b, .int .i64 c] 3))) ∧
    g + 1 ≤ ((w0.alloc (.cells #[.int .i64 k] 3)).alloc (.cells #[.int .i64 a, .int .i64 b, .int .i64 c] 3)).heap.size := by
  have h1 := own_lit w0 (g + 1) (g + 1) [k] 1 rfl hg (Nat.le_refl _) (by omega)
  have h2 := in_lit (w0.alloc (.cells ([k].map (Value.int .i64)).toArray 3)) (g + 1 + 1) [a, b, c] (by simp; omega)
  exact ⟨h1.alloc _, h2.take n, ((Below.refl (g + 1) w0).alloc (by omega) _).alloc (by simp; omega) _, by simp; omega⟩
theorem take3_len (a b c : Int) (n : Nat) (h : n ≤ 3) : n = ([a, b, c].take n).length := by rw [List.length_take]; simp; omega
theorem slice3 (b n : Nat) (hn : n ≤ 3) (W : World) : (Instr.slice 50 (.slice (some ⟨b, 0, none⟩) 3 3) none (some (.int .i64 (n : Int))) none).run Try.prog W = .ok (.slice (some ⟨b, 0, none⟩) n 3) W := by
  obtain ⟨i, hi, hz, h1, h3⟩ := info_parts int_info
  have e1 : (0 : Int) ≤ (n : Int) ∧ (n : Int) ≤ 3 := by omega
  have e : (⟨b, 0, none⟩ : Addr).add 0 = ⟨b, 0, none⟩ := by unfold Addr.add; simp
  simp [Instr.slice, Instr.sliceBounds, Instr.sliceBound, asIntOf, run_underlying Try.underlying50, sizeOf, typeInfo, hi, e1, hn, e]
theorem str_sum {p q : List UInt8} {s : ByteArray} (h : s.data.toList = q) : (⟨p.toArray⟩ : ByteArray) ++ s = ⟨(p ++ q).toArray⟩ := by
  subst h
  exact bytes_ext (by simp)
set_option maxHeartbeats 1600000 in
theorem senc_ack (a b c : Int) (s : ByteArray) (B : Nat) (rs : List Rg) (A : Option Addr) (cap : Nat) (w : World) (hI : RsIn w B A rs) (hBw : B ≤ w.heap.size) (hv : fvalid ⟨2, a, b, c, s.data.toList, rs⟩ = true) (x : List UInt8) (hx : fraw ⟨2, a, b, c, s.data.toList, rs⟩ = x) :
    Calls Try.prog 36 #[.agg #[.int .i64 2, .int .i64 a, .int .i64 b, .int .i64 c, .string s, .slice A rs.length cap]] w (StrPost w x) := by
  obtain ⟨n, hn⟩ : ∃ n, fmany 2 = n := ⟨_, rfl⟩
  have hn3 : n ≤ 3 := by rw [← hn]; exact fmany_le _
  have HN := Lib.hid (show (fmany 2 : Int) = (n : Int) by rw [hn])
  have V := Lib.hid hv
  have RV := Lib.hid (fvalid_ack hv rfl).2.1
  have hrl := rvalid_len RV.out
  have hr0 := (fvalid_ack hv rfl).1
  have HV := Lib.hid (fnums_var hv)
  have HL := fnums_len hv
  obtain ⟨N, hN⟩ : ∃ N, fnums ⟨2, a, b, c, s.data.toList, rs⟩ = N := ⟨_, rfl⟩
  have E0 := Lib.hid (show [2] ++ [a, b, c].take n ++ [(rs.length : Int)] ++ fdeltas (-2) (rs.drop 0) = N by rw [← hN, ← hn]; unfold fnums ftail; simp)
  have EX := Lib.hid (show vjoin N = x by
    rw [← hx, ← hN]; unfold fraw
    have hd : s.data.toList = [] := by
      rcases (fvalid_cases hv).2.1 with h | h | h
      · exact h
      · exact absurd h (show ¬ (2 : Int) = 3 by decide)
      · exact absurd h (show ¬ (2 : Int) = 9 by decide)
    simp only
    rw [hd, List.append_nil])
  rw [hN] at HV HL
  clear hv hx hN hn
  have B0 := Lib.hid ((Below.refl w.heap.size w).alloc (Nat.le_refl _) (.cells #[.int .i64 2, .int .i64 a, .int .i64 b, .int .i64 c, .string s, .slice A rs.length cap] 25))
  have X0 := Lib.hid (FBlk.new w 2 a b c s A rs.length cap)
  have I0 := Lib.hid (hI.below (B0.out.mono hBw))
  have hz0 : w.heap.size + 1 = (w.alloc (.cells #[.int .i64 2, .int .i64 a, .int .i64 b, .int .i64 c, .string s, .slice A rs.length cap] 25)).heap.size := by simp
  obtain ⟨OL, IL, BL, hzl⟩ := enc_start (w.alloc (.cells #[.int .i64 2, .int .i64 a, .int .i64 b, .int .i64 c, .string s, .slice A rs.length cap] 25)) 2 a b c n w.heap.size hz0
  have hsl := fun W => slice3 (w.heap.size + 1 + 1) n hn3 W
  clear hI hz0
  go_enter Try.func36, Try.ntmps36
  go_wp2_with fail
  refine (numbers_is 2 n _ HN.out).mono ?_
  rintro e w1 ⟨rfl, rfl⟩
  go_upto_region 4 with (at_builtin; refine wpList_append_mem (by rfl) (.tmp 17) (.tmp 22) (by rfl) (w.heap.size + 1) _ 1 1 [2] (by rfl) (by rfl) OL.out (w.heap.size + 1 + 1 + 1) _ 3 n _ (take3_len a b c n hn3) (by rfl) IL.out (by omega) hzl ?_; intro A1 c1 w1 q1 hq1 hl1 O1 hB1)
  have B1 := Lib.hid (BL.out.trans hB1.out)
  have X1 := Lib.hid (X0.out.below B1.out (by omega))
  have hz1 : w.heap.size + 1 ≤ w1.heap.size := by have := B1.out.size; simp at this; omega
  have lq1 : q1.length ≤ 4 := by have := hl1.out; omega
  have HQ := Lib.hid (show q1 = 2 :: [a, b, c].take n from hq1.out)
  clear OL IL BL hB1 hq1 hzl
  obtain ⟨x0, x1, x2, x3, x4, x5⟩ := X1.out.cells
  go_wp2_with (at_builtin; refine wpList_append_new [(rs.length : Int)] (by rfl) (.tmp 27) (.tmp 31) (by rfl) (w.heap.size + 1) A1 c1 q1 (by rfl) O1.out _ 1 (by rfl) (by rfl) (by rfl) (by omega) (by omega) hz1 ?_; intro A2 c2 w2 q2 hq2 hl2 O2 hB2 G2)
  have B2 := Lib.hid (B1.out.trans hB2.out)
  have E2 := Lib.hid (show q2 ++ fdeltas (-2) (rs.drop 0) = N by rw [hq2.out, HQ.out]; exact E0.out)
  clear hB2 G2 hq2 HQ E0 X1 x0 x1 x2 x3 x4 x5
  go_wp2_with fail
  go_loopw [3, 5, 6] (fun o la i wr => ∃ (j : Nat) (y : Int) (Ax : Option Addr) (cx : Nat) (xs : List Int), j ≤ rs.length ∧ i = .int .i64 j ∧ la = .int .i64 y ∧ o = .slice Ax xs.length cx ∧ -2 ≤ y ∧ y ≤ 999 ∧ Hid (rv y (rs.drop j) = true) ∧ Hid (xs ++ fdeltas y (rs.drop j) = N) ∧ xs.length ≤ 40 ∧ Hid (OwnInts wr (w.heap.size + 1) Ax cx xs) ∧ Hid (Below (w.heap.size + 1) (w.alloc (.cells #[.int .i64 2, .int .i64 a, .int .i64 b, .int .i64 c, .string s, .slice A rs.length cap] 25)) wr)) (fun _ _ i _ => rs.length - (intOf i).toNat)
  case atStart => exact ⟨0, -2, A2, c2, q2, Nat.zero_le _, rfl, rfl, rfl, by omega, by omega, rvalid_rv RV.out, E2.out, by have := hl2.out; omega, O2.out, B2.out⟩
  case round =>
    clear E2 O2 B2 hl2 hl1 O1 B1
    obtain ⟨j, y, A3, c3, xs, hj, rfl, rfl, rfl, hy0, hy1, hr, hE, hxl, hO, hB⟩ := hrel
    have hzr : w.heap.size + 1 ≤ wr.heap.size := by have := hB.out.size; simp at this; omega
    have XR := Lib.hid (X0.out.below hB.out (by omega))
    obtain ⟨x0, x1, x2, x3, x4, x5⟩ := XR.out.cells
    by_cases hlt : j < rs.length
    · obtain ⟨g, off, rfl, hgB, hc⟩ := (I0.out.below (hB.out.mono (Nat.le_succ_of_le hBw))) (by omega)
      obtain ⟨g1, g2⟩ := hc j hlt
      have T := Lib.hid (rv_step hlt hr.out)
      have U := Lib.hid (show fdeltas y (rs.drop j) = ((rs.getD j (0, 0)).1 - y - 2) :: ((rs.getD j (0, 0)).2 - (rs.getD j (0, 0)).1) :: fdeltas (rs.getD j (0, 0)).2 (rs.drop (j + 1)) by
        rw [List.drop_eq_getElem_cons hlt, List.getD_eq_getElem?_getD, List.getElem?_eq_getElem hlt]; rfl)
      clear hc
      generalize rs.getD j (0, 0) = p at g1 g2 T U
      obtain ⟨lo, hi⟩ := p
      simp only at g1 g2 T U
      obtain ⟨t1, t2, t3, t4⟩ := T.out
      have T4 := Lib.hid t4
      clear T t4
      have s1 := IntWalk.i64_in (lo - y) (by omega)
      have s2 := IntWalk.i64_in (lo - y - 2) (by omega)
      have s3 := IntWalk.i64_in (hi - lo) (by omega)
      have j1 : (j : Int) < (rs.length : Int) := by omega
      have hgw : g < w.heap.size + 1 := by omega
      go_wp2_with fail
      go_region_held3 (fun w' => w'.cell? ⟨w.heap.size, 5, none⟩ = some (.slice (some ⟨g, off, none⟩) rs.length cap) ∧ w'.cell? ⟨g, off + j * 2, none⟩ = some (.int .i64 lo) ∧ w'.cell? ⟨g, off + j * 2 + 1, none⟩ = some (.int .i64 hi)) (first | go_keep | (exact ⟨(hX.cell (p := ⟨w.heap.size, 5, none⟩) (by simp)).trans x5, (hX.cell (p := ⟨g, off + j * 2, none⟩) hgw).trans g1, (hX.cell (p := ⟨g, off + j * 2 + 1, none⟩) hgw).trans g2⟩)) ((first | (refine step_append_new [lo - y - 2, hi - lo] (by rfl) _ _ (by rfl) (w.heap.size + 1) A3 c3 xs (by rfl) (hO.out.below (Below.refl _ _).drew) _ 2 (by rfl) (by first | rfl | simp) (by rfl) (by omega) (by omega) hzr ?_; intro A4 c4 w4 q4 hq4 hl4 O4 hB4 G4; have hX := (Below.refl (w.heap.size + 1) wr).drew.trans hB4.out)))
      have B4 := Lib.hid (hB.out.trans hX)
      have E4 := Lib.hid (show q4 ++ fdeltas hi (rs.drop (j + 1)) = N by rw [← hE.out, U.out, hq4.out, List.append_assoc]; rfl)
      have L4 : q4.length ≤ 40 := by
        have h1 := congrArg List.length E4.out
        rw [List.length_append] at h1
        omega
      have X4 := Lib.hid (X0.out.below B4.out (by omega))
      obtain ⟨y0, y1, y2, y3, y4, y5⟩ := X4.out.cells
      have k2 := (hX.cell (p := ⟨g, off + j * 2 + 1, none⟩) hgw).trans g2
      clear hX hB4 G4 hq4 hl4 x0 x1 x2 x3 x4 x5 y0 y1 y2 y3 y4 g1 g2 s1 s2 s3
      go_wp2_with fail
      go_roundw
      case rel => exact ⟨j + 1, hi, A4, c4, q4, by omega, by go_num, rfl, rfl, by omega, by omega, T4.out, E4.out, L4, O4.out, B4.out⟩
      case measure => simp [intOf]; omega
    · have hj' : j = rs.length := by omega
      have E := Lib.hid (show xs = N by
        have h := hE.out
        rw [hj', List.drop_length] at h
        simpa [fdeltas] using h)
      clear hj'
      have J := sl1join_any wr.heap.size A3 xs c3 wr hO.out.in_ (Nat.le_refl _) (by omega) (by rw [E.out]; exact HV.out)
      rw [E.out, EX.out] at J
      have JJ := Lib.hid (show Calls Try.prog 54 #[.slice A3 xs.length c3] wr fun e w' => e = .returned (.string ⟨x.toArray⟩) ∧ Below wr.heap.size wr w' by rw [E.out]; exact J)
      clear J
      go_wp2_with fail
      refine JJ.out.mono ?_
      rintro e w5 ⟨rfl, hB5⟩
      have D := Lib.hid (show StrPost w x (.returned (.string ⟨x.toArray⟩)) w5 from ⟨rfl, (B0.out.trans (hB.out.mono (by omega))).trans (hB5.mono (by have := hB.out.size; simp at this; omega))⟩)
      clear hB5
      go_wp2
      go_ret
      exact D.out
theorem sl1join_is {B : Nat} {A : Option Addr} {xs N : List Int} {y : List UInt8} (c : Nat) (w : World) (h : IntsIn w B A xs) (hBw : B ≤ w.heap.size) (hx : xs = N) (hm : N.length ≤ 40) (ha : N.all isVar = true) (hy : vjoin N = y) :
    Calls Try.prog 54 #[.slice A xs.length c] w fun e w' => e = .returned (.string ⟨y.toArray⟩) ∧ Below w.heap.size w w' := by
  subst hx hy
  exact sl1join_any B A xs c w h hBw (by omega) ha
set_option maxHeartbeats 1600000 in
theorem senc_other (k a b c : Int) (s : ByteArray) (B : Nat) (rs : List Rg) (A : Option Addr) (cap : Nat) (w : World) (hI : RsIn w B A rs) (hBw : B ≤ w.heap.size) (h2 : ¬ k = 2) (h3 : ¬ k = 3) (h9 : ¬ k = 9) (hv : fvalid ⟨k, a, b, c, s.data.toList, rs⟩ = true) (x : List UInt8) (hx : fraw ⟨k, a, b, c, s.data.toList, rs⟩ = x) :
    Calls Try.prog 36 #[.agg #[.int .i64 k, .int .i64 a, .int .i64 b, .int .i64 c, .string s, .slice A rs.length cap]] w (StrPost w x) := by
  obtain ⟨n, hn⟩ : ∃ n, fmany k = n := ⟨_, rfl⟩
  have hn3 : n ≤ 3 := by rw [← hn]; exact fmany_le _
  have HN := Lib.hid (show (fmany k : Int) = (n : Int) by rw [hn])
  have HV := Lib.hid (fnums_var hv)
  have HL := fnums_len hv
  obtain ⟨N, hN⟩ : ∃ N, fnums ⟨k, a, b, c, s.data.toList, rs⟩ = N := ⟨_, rfl⟩
  have E0 := Lib.hid (show k :: [a, b, c].take n = N by rw [← hN, ← hn]; unfold fnums ftail; simp only; rw [if_neg h2, if_neg (by omega), List.append_nil])
  have EX := Lib.hid (show vjoin N = x by
    rw [← hx, ← hN]; unfold fraw
    have hd : s.data.toList = [] := by
      rcases (fvalid_cases hv).2.1 with h | h | h
      · exact h
      · exact absurd h h3
      · exact absurd h h9
    simp only
    rw [hd, List.append_nil])
  rw [hN] at HV HL
  have e2 : (k == 2) = false := beq_eq_false_iff_ne.2 h2
  have e3 : (k == 3) = false := beq_eq_false_iff_ne.2 h3
  have e9 : (k == 9) = false := beq_eq_false_iff_ne.2 h9
  clear hv hx hN hn h2 h3 h9
  have B0 := Lib.hid ((Below.refl w.heap.size w).alloc (Nat.le_refl _) (.cells #[.int .i64 k, .int .i64 a, .int .i64 b, .int .i64 c, .string s, .slice A rs.length cap] 25))
  have X0 := Lib.hid (FBlk.new w k a b c s A rs.length cap)
  have I0 := Lib.hid (hI.below (B0.out.mono hBw))
  have hz0 : w.heap.size + 1 = (w.alloc (.cells #[.int .i64 k, .int .i64 a, .int .i64 b, .int .i64 c, .string s, .slice A rs.length cap] 25)).heap.size := by simp
  obtain ⟨OL, IL, BL, hzl⟩ := enc_start (w.alloc (.cells #[.int .i64 k, .int .i64 a, .int .i64 b, .int .i64 c, .string s, .slice A rs.length cap] 25)) k a b c n w.heap.size hz0
  have hsl := fun W => slice3 (w.heap.size + 1 + 1) n hn3 W
  clear hI hz0
  go_enter Try.func36, Try.ntmps36
  go_wp2_with fail
  refine (numbers_is k n _ HN.out).mono ?_
  rintro e w1 ⟨rfl, rfl⟩
  go_upto_region 4 with (at_builtin; refine wpList_append_mem (by rfl) (.tmp 17) (.tmp 22) (by rfl) (w.heap.size + 1) _ 1 1 [k] (by rfl) (by rfl) OL.out (w.heap.size + 1 + 1 + 1) _ 3 n _ (take3_len a b c n hn3) (by rfl) IL.out (by omega) hzl ?_; intro A1 c1 w1 q1 hq1 hl1 O1 hB1)
  have B1 := Lib.hid (BL.out.trans hB1.out)
  have X1 := Lib.hid (X0.out.below B1.out (by omega))
  have hz1 : w.heap.size + 1 ≤ w1.heap.size := by have := B1.out.size; simp at this; omega
  have lq1 : q1.length ≤ 4 := by have := hl1.out; omega
  have HQ := Lib.hid (show q1 = k :: [a, b, c].take n from hq1.out)
  clear OL IL BL hB1 hq1 hzl
  obtain ⟨x0, x1, x2, x3, x4, x5⟩ := X1.out.cells
  have E1 := Lib.hid (show q1 = N by rw [HQ.out, E0.out])
  clear HQ E0 X1
  go_wp2_with fail
  refine (sl1join_is c1 w1 O1.out.in_ (Nat.le_refl _) E1.out HL HV.out EX.out).mono ?_
  rintro e w5 ⟨rfl, hB5⟩
  have D := Lib.hid (show StrPost w x (.returned (.string ⟨x.toArray⟩)) w5 from ⟨rfl, (B0.out.trans (B1.out.mono (by omega))).trans (hB5.mono (by omega))⟩)
  clear hB5
  go_wp2
  go_ret
  exact D.out
set_option maxHeartbeats 1600000 in
theorem senc_data (k a b c : Int) (s : ByteArray) (B : Nat) (rs : List Rg) (A : Option Addr) (cap : Nat) (w : World) (hI : RsIn w B A rs) (hBw : B ≤ w.heap.size) (hk : k = 3 ∨ k = 9) (hv : fvalid ⟨k, a, b, c, s.data.toList, rs⟩ = true) (x : List UInt8) (hx : fraw ⟨k, a, b, c, s.data.toList, rs⟩ = x) :
    Calls Try.prog 36 #[.agg #[.int .i64 k, .int .i64 a, .int .i64 b, .int .i64 c, .string s, .slice A rs.length cap]] w (StrPost w x) := by
  have h2 : ¬ k = 2 := by omega
  obtain ⟨n, hn⟩ : ∃ n, fmany k = n := ⟨_, rfl⟩
  have hn3 : n ≤ 3 := by rw [← hn]; exact fmany_le _
  have HN := Lib.hid (show (fmany k : Int) = (n : Int) by rw [hn])
  have HV := Lib.hid (fnums_var hv)
  have HL := fnums_len hv
  have hs12 : s.size ≤ 12 := by have := (fvalid_cases hv).1; simp only [str_len] at this; exact this
  obtain ⟨N, hN⟩ : ∃ N, fnums ⟨k, a, b, c, s.data.toList, rs⟩ = N := ⟨_, rfl⟩
  have E0 := Lib.hid (show (k :: [a, b, c].take n) ++ [(s.size : Int)] = N by rw [← hN, ← hn]; unfold fnums ftail; simp only; rw [if_neg h2, if_pos hk, str_len]; rfl)
  obtain ⟨y, hy⟩ : ∃ y, vjoin N = y := ⟨_, rfl⟩
  have HY := Lib.hid hy
  have ylen : y.length ≤ 160 := by rw [← hy]; have := vjoin_len N; rw [hN] at HL; omega
  have cat : ∀ W, (Op.stringOp .add ⟨y.toArray⟩ s).run Try.prog W = .ok (.string ⟨x.toArray⟩) W := fun W => by
    have e : (⟨y.toArray⟩ : ByteArray) ++ s = ⟨x.toArray⟩ := by
      rw [str_sum rfl, ← hx]; unfold fraw; rw [hN, hy]
    rw [run_string_add_sum W _ _ (by rw [size_of_list ⟨y.toArray⟩ y rfl]; omega), e]
  rw [hN] at HV HL
  have e2 : (k == 2) = false := beq_eq_false_iff_ne.2 h2
  clear hv hx hN hn h2 hy
  have B0 := Lib.hid ((Below.refl w.heap.size w).alloc (Nat.le_refl _) (.cells #[.int .i64 k, .int .i64 a, .int .i64 b, .int .i64 c, .string s, .slice A rs.length cap] 25))
  have X0 := Lib.hid (FBlk.new w k a b c s A rs.length cap)
  have I0 := Lib.hid (hI.below (B0.out.mono hBw))
  have hz0 : w.heap.size + 1 = (w.alloc (.cells #[.int .i64 k, .int .i64 a, .int .i64 b, .int .i64 c, .string s, .slice A rs.length cap] 25)).heap.size := by simp
  obtain ⟨OL, IL, BL, hzl⟩ := enc_start (w.alloc (.cells #[.int .i64 k, .int .i64 a, .int .i64 b, .int .i64 c, .string s, .slice A rs.length cap] 25)) k a b c n w.heap.size hz0
  have hsl := fun W => slice3 (w.heap.size + 1 + 1) n hn3 W
  clear hI hz0
  go_enter Try.func36, Try.ntmps36
  go_wp2_with fail
  refine (numbers_is k n _ HN.out).mono ?_
  rintro e w1 ⟨rfl, rfl⟩
  go_upto_region 4 with (at_builtin; refine wpList_append_mem (by rfl) (.tmp 17) (.tmp 22) (by rfl) (w.heap.size + 1) _ 1 1 [k] (by rfl) (by rfl) OL.out (w.heap.size + 1 + 1 + 1) _ 3 n _ (take3_len a b c n hn3) (by rfl) IL.out (by omega) hzl ?_; intro A1 c1 w1 q1 hq1 hl1 O1 hB1)
  have B1 := Lib.hid (BL.out.trans hB1.out)
  have X1 := Lib.hid (X0.out.below B1.out (by omega))
  have hz1 : w.heap.size + 1 ≤ w1.heap.size := by have := B1.out.size; simp at this; omega
  have lq1 : q1.length ≤ 4 := by have := hl1.out; omega
  have HQ := Lib.hid (show q1 = k :: [a, b, c].take n from hq1.out)
  clear OL IL BL hB1 hq1 hzl
  obtain ⟨x0, x1, x2, x3, x4, x5⟩ := X1.out.cells
  have E1 := Lib.hid (show q1 ++ [(s.size : Int)] = N by rw [HQ.out]; exact E0.out)
  clear HQ E0 X1
  have hgw : w.heap.size < w.heap.size + 1 := by omega
  rcases hk with rfl | rfl
  all_goals
    go_wp2_with fail
    go_region_held3 (fun w' => w'.cell? ⟨w.heap.size, 4, none⟩ = some (.string s)) (first | go_keep | (exact (hX.cell (p := ⟨w.heap.size, 4, none⟩) hgw).trans x4)) ((first | (refine step_append_new [(s.size : Int)] (by rfl) _ _ (by rfl) (w.heap.size + 1) A1 c1 q1 (by rfl) (O1.out.below (Below.refl _ _).drew) _ 1 (by rfl) (by first | rfl | simp) (by rfl) (by omega) (by omega) hz1 ?_; intro A4 c4 w4 q4 hq4 hl4 O4 hB4 G4; have hX := (Below.refl (w.heap.size + 1) w1).drew.trans hB4.out) | (go_at_call 54; refine (sl1join_is (N := N) (y := y) c4 _ O4.out.in_ (Nat.le_refl _) (by rw [hq4.out]; exact E1.out) HL HV.out HY.out).mono ?_; rintro e w5 ⟨rfl, hB5⟩; have hX5 := hB5.mono hX.size; have hX := hX.trans (hB5.mono (Nat.le_trans hz1 hX.size)))))
    have D := Lib.hid (show StrPost w x (.returned (.string ⟨x.toArray⟩)) w5 from ⟨rfl, (B0.out.trans (B1.out.mono (by omega))).trans (hX.mono (by omega))⟩)
    clear hX hX5 hB5 hB4 G4 O4 hq4 hl4
    go_wp2
    go_ret
    exact D.out
theorem senc_any (k a b c : Int) (s : ByteArray) (B : Nat) (rs : List Rg) (A : Option Addr) (cap : Nat) (w : World) (hI : RsIn w B A rs) (hBw : B ≤ w.heap.size) (hv : fvalid ⟨k, a, b, c, s.data.toList, rs⟩ = true) (x : List UInt8) (hx : fraw ⟨k, a, b, c, s.data.toList, rs⟩ = x) :
    Calls Try.prog 36 #[.agg #[.int .i64 k, .int .i64 a, .int .i64 b, .int .i64 c, .string s, .slice A rs.length cap]] w (StrPost w x) := by
  by_cases h2 : k = 2
  · subst h2; exact senc_ack a b c s B rs A cap w hI hBw hv x hx
  · by_cases hk : k = 3 ∨ k = 9
    · exact senc_data k a b c s B rs A cap w hI hBw hk hv x hx
    · exact senc_other k a b c s B rs A cap w hI hBw h2 (by omega) (by omega) hv x hx
set_option maxHeartbeats 800000 in
theorem sfenc_any (k a b c : Int) (s : ByteArray) (B : Nat) (rs : List Rg) (A : Option Addr) (cap : Nat) (w : World) (hI : RsIn w B A rs) (hBw : B ≤ w.heap.size) (hm : rs.length ≤ 2000000) (hs : s.size ≤ 1000000000000) (x : List UInt8) (hx : fenc ⟨k, a, b, c, s.data.toList, rs⟩ = x) :
    Calls Try.prog 13 #[.agg #[.int .i64 k, .int .i64 a, .int .i64 b, .int .i64 c, .string s, .slice A rs.length cap]] w (StrPost w x) := by
  have B0 := Lib.hid ((Below.refl w.heap.size w).alloc (Nat.le_refl _) (.cells #[.int .i64 k, .int .i64 a, .int .i64 b, .int .i64 c, .string s, .slice A rs.length cap] 25))
  have X0 := Lib.hid (FBlk.new w k a b c s A rs.length cap)
  have I0 := Lib.hid (hI.below (B0.out.mono hBw))
  obtain ⟨q, hq⟩ : ∃ q, fvalid ⟨k, a, b, c, s.data.toList, rs⟩ = q := ⟨_, rfl⟩
  have FC := Lib.hid (sfv_of k a b c s B rs A cap _ I0.out (Nat.le_trans hBw B0.out.size) hm hs q hq)
  have Q := Lib.hid hq
  have HX := Lib.hid hx
  clear hI hq hx
  go_enter Try.func13, Try.ntmps13
  go_wp2_with fail
  refine FC.out.mono ?_
  rintro e w2 ⟨rfl, hB⟩
  have X2 := Lib.hid (X0.out.below hB (by simp))
  have I2 := Lib.hid (I0.out.below (hB.mono (Nat.le_trans hBw B0.out.size)))
  have B2 := Lib.hid (drew2 B0.out hB)
  obtain ⟨x0, x1, x2, x3, x4, x5⟩ := X2.out.cells
  clear hB
  cases q with
  | false =>
    have D := Lib.hid (show StrPost w x (.returned (.string ⟨#[]⟩)) w2 from ⟨by rw [← HX.out]; unfold fenc; rw [Q.out]; rfl, B2.out⟩)
    go_wp2
    go_ret
    exact D.out
  | true =>
    have E := Lib.hid (show fraw ⟨k, a, b, c, s.data.toList, rs⟩ = x by rw [← HX.out]; unfold fenc; rw [Q.out]; rfl)
    go_wp2_with fail
    refine (senc_any k a b c s B rs A cap w2 I2.out (Nat.le_trans hBw B2.out.size) Q.out x E.out).mono ?_
    rintro e w3 ⟨rfl, hB⟩
    have D := Lib.hid (show StrPost w x (.returned (.string ⟨x.toArray⟩)) w3 from ⟨rfl, drew2 B2.out hB⟩)
    clear hB
    go_wp2
    go_ret
    exact D.out
end Go.Proofs.Ytibnjbbiagjnjaa
