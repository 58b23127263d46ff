/- The program's encoding of a frame: the contract of impl.FrameEncode. No condition but that the ranges read as the list. -/
import Derived.Test.YtibnjbbiagjnjaaFEnc
import Derived.Test.YtibnjbbiagjnjaaBld
import Derived.Deep.CutRange
import Derived.Deep.CutBlock
namespace Go.Proofs.Ytibnjbbiagjnjaa
open Go.RowKit
set_option linter.unusedVariables false
theorem fields_many (k : Int) (n : Nat) (w : World) (hn : (fmany k : Int) = (n : Int)) : Calls Try.prog 32 #[.int .i64 k] w fun e w' => e = .returned (.int .i64 (n : Int)) ∧ w = w' := by
  rw [← hn]
  by_cases ho : k < 0 ∨ 10 < k
  · have e : fmany k = 1 := by unfold fmany; rw [if_neg (by omega), if_neg (by omega), if_neg (by omega)]
    rw [e]
    rcases ho with ho | ho
    all_goals
      go_enter Try.func32, Try.ntmps32
      go_wp2
      go_ret
      exact ⟨rfl, rfl⟩
  · have hk : k = 0 ∨ k = 1 ∨ k = 2 ∨ k = 3 ∨ k = 4 ∨ k = 5 ∨ k = 6 ∨ k = 7 ∨ k = 8 ∨ k = 9 ∨ k = 10 := by omega
    clear ho hn
    rcases hk with rfl | rfl | rfl | rfl | rfl | rfl | rfl | rfl | rfl | rfl | rfl
    all_goals
      go_enter Try.func32, Try.ntmps32
      go_wp2
      go_ret
      exact ⟨rfl, rfl⟩
theorem enc_start_a (w0 : World) (k a b c : Int) (n g : Nat) (hg : g = w0.heap.size) :
    Hid (OwnInts ((w0.alloc (.cells #[.int .i64 k] 3)).alloc (.cells #[.int .i64 a, .int .i64 b, .int .i64 c] 3)) g (some ⟨g, 0, none⟩) 1 [k]) ∧
    Hid (IntsIn ((w0.alloc (.cells #[.int .i64 k] 3)).alloc (.cells #[.int .i64 a, .int .i64 b, .int .i64 c] 3)) (g + 1 + 1) (some ⟨g + 1, 0, none⟩) ([a, b, c].take n)) ∧
    Hid (Below g w0 ((w0.alloc (.cells #[.int .i64 k] 3)).alloc (.cells #[.int .i64 a, .int .i64 b, .int .i64 c] 3))) ∧
    g ≤ ((w0.alloc (.cells #[.int .i64 k] 3)).alloc (.cells #[.int .i64 a, .int .i64 b, .int .i64 c] 3)).heap.size := by
  have h1 := own_lit w0 g g [k] 1 rfl hg (Nat.le_refl _) (by omega)
  have h2 := in_lit (w0.alloc (.cells ([k].map (Value.int .i64)).toArray 3)) (g + 1) [a, b, c] (by simp; omega)
  exact ⟨h1.alloc _, h2.take n, ((Below.refl g w0).alloc (by omega) _).alloc (by simp; omega) _, by simp; omega⟩
theorem enc_start_b (w0 : World) (k a b c : Int) (n g : Nat) (hg : g = w0.heap.size) :
    Hid (OwnInts ((w0.alloc (.cells #[.int .i64 a, .int .i64 b, .int .i64 c] 3)).alloc (.cells #[.int .i64 k] 3)) g (some ⟨g + 1, 0, none⟩) 1 [k]) ∧
    Hid (IntsIn ((w0.alloc (.cells #[.int .i64 a, .int .i64 b, .int .i64 c] 3)).alloc (.cells #[.int .i64 k] 3)) (g + 1) (some ⟨g, 0, none⟩) ([a, b, c].take n)) ∧
    Hid (Below g w0 ((w0.alloc (.cells #[.int .i64 a, .int .i64 b, .int .i64 c] 3)).alloc (.cells #[.int .i64 k] 3))) ∧
    g ≤ ((w0.alloc (.cells #[.int .i64 a, .int .i64 b, .int .i64 c] 3)).alloc (.cells #[.int .i64 k] 3)).heap.size := by
  have h1 := own_lit (w0.alloc (.cells ([a, b, c].map (Value.int .i64)).toArray 3)) g (g + 1) [k] 1 rfl (by simp; omega) (by omega) (by omega)
  have h2 := in_lit w0 g [a, b, c] hg
  have hb : Below (g + 1) (w0.alloc (.cells ([a, b, c].map (Value.int .i64)).toArray 3)) ((w0.alloc (.cells ([a, b, c].map (Value.int .i64)).toArray 3)).alloc (.cells #[.int .i64 k] 3)) := (Below.refl (g + 1) _).alloc (by simp; omega) _
  exact ⟨h1, (h2.below hb).take n, ((Below.refl g w0).alloc (by omega) _).alloc (by simp; omega) _, by simp; omega⟩
theorem Bld.below {w w' : World} {B b : Nat} {l : List UInt8} (h : Bld w B b l) (hb : Below w.heap.size w w') : Bld w' B b l := by
  have one : ∀ p, Lib.BuilderAt 56 5 B b p (Lib.byteCells l) w → Lib.BuilderAt 56 5 B b p (Lib.byteCells l) w' := fun p h => by
    have hlt := h.lt
    obtain ⟨h1, v, h2, h3, h4⟩ := h
    refine ⟨h1, v, (hb.block b hlt).trans h2, World.ownsRow.kept h3 ⟨hb.os, hb.tape, hb.output, hb.size, fun k hk _ => hb.block k hk⟩ (row := none) ?_, h4⟩
    cases hv : v.ownBlock with
    | none => exact .inl rfl
    | some k => exact .inr (by simp)
  exact h.imp (one _) (one _)
theorem take_all_venc (N : List Int) (j : Nat) (h : j < N.length) : vjoin (N.take (j + 1)) = vjoin (N.take j) ++ venc (N.getD j 0) := by
  rw [take_snoc h, vjoin_append, vjoin_one]
set_option maxHeartbeats 3200000 in
theorem ifenc_yes (k a b c : Int) (s : ByteArray) (B : Nat) (rs : List Rg) (A : Option Addr) (cap : Nat) (w : World) (hI : RsIn w B A rs) (hBw : B ≤ w.heap.size) (hm : rs.length ≤ 2000000) (hs : s.size ≤ 1000000000000) (hv : fvalid ⟨k, a, b, c, s.data.toList, rs⟩ = true) (x : List UInt8) (hx : fraw ⟨k, a, b, c, s.data.toList, rs⟩ = x) :
    Calls Try.prog 12 #[.agg #[.int .i64 k, .int .i64 a, .int .i64 b, .int .i64 c, .string s, .slice A rs.length cap]] w (StrPost w x) := by
  obtain ⟨n, hn⟩ : ∃ n, fmany k = n := ⟨_, rfl⟩
  have hn3 : n ≤ 3 := by rw [← hn]; exact fmany_le _
  have HN := Lib.hid (show (fmany k : Int) = (n : Int) by rw [hn])
  have HV := Lib.hid (fnums_var hv)
  have HL := fnums_len hv
  have hs12 : s.size ≤ 12 := by have := (fvalid_cases hv).1; simp only [str_len] at this; exact this
  have RV := Lib.hid (fun (h : k = 2) => fvalid_ack hv h)
  obtain ⟨N, hN⟩ : ∃ N, fnums ⟨k, a, b, c, s.data.toList, rs⟩ = N := ⟨_, rfl⟩
  have E0 := Lib.hid (show (k :: [a, b, c].take n) ++ (if k = 2 then (rs.length : Int) :: fdeltas (-2) rs else if k = 3 ∨ k = 9 then [(s.size : Int)] else []) = N by rw [← hN, ← hn]; unfold fnums ftail; simp only [str_len]; rfl)
  obtain ⟨y, hy⟩ : ∃ y, vjoin N = y := ⟨_, rfl⟩
  have HY := Lib.hid hy
  have ylen : y.length ≤ 160 := by rw [← hy]; have := vjoin_len N; rw [hN] at HL; omega
  have cat : ∀ W, (Op.stringOp .add ⟨y.toArray⟩ s).run Try.prog W = .ok (.string ⟨x.toArray⟩) W := fun W => by
    have e : (⟨y.toArray⟩ : ByteArray) ++ s = ⟨x.toArray⟩ := by
      rw [str_sum rfl, ← hx]; unfold fraw; rw [hN, hy]
    rw [run_string_add_sum W _ _ (by rw [size_of_list ⟨y.toArray⟩ y rfl]; omega), e]
  rw [hN] at HV HL
  have CAT := Lib.hid cat
  have B0 := Lib.hid ((Below.refl w.heap.size w).alloc (Nat.le_refl _) (.cells #[.int .i64 k, .int .i64 a, .int .i64 b, .int .i64 c, .string s, .slice A rs.length cap] 25))
  have X0 := Lib.hid (FBlk.new w k a b c s A rs.length cap)
  have I0 := Lib.hid (hI.below (B0.out.mono hBw))
  have FC := Lib.hid (ifv_of k a b c s B rs A cap _ I0.out (Nat.le_trans hBw B0.out.size) hm hs true hv)
  clear hI hx hv hn hN hy cat
  go_enter Try.func12, Try.ntmps12
  go_wp2_with fail
  refine FC.out.mono ?_
  rintro e w2 ⟨rfl, hB⟩
  have hz2 : w.heap.size < w2.heap.size := by have := hB.size; simp at this; omega
  have X2 := Lib.hid (X0.out.below hB (by simp))
  have I2 := Lib.hid (I0.out.below (hB.mono (Nat.le_trans hBw B0.out.size)))
  have B2 := Lib.hid (drew2 B0.out hB)
  obtain ⟨x0, x1, x2, x3, x4, x5⟩ := X2.out.cells
  have SA := Lib.hid (enc_start_a w2.drew k a b c n w2.heap.size rfl)
  have SB := Lib.hid (enc_start_b w2.drew k a b c n w2.heap.size rfl)
  have hsl1 := fun W => slice3 w2.heap.size n hn3 W
  have hsl2 := fun W => slice3 (w2.heap.size + 1) n hn3 W
  have f1 := World.new_ne w2 _ x0
  clear hB FC B0 X0 I0
  go_upto_region 3 with fail
  go_cut [3] from 13 (fun l wx => ∃ (A1 : Option Addr) (c1 : Nat) (q1 : List Int), l = .slice A1 q1.length c1 ∧ Hid (q1 = k :: [a, b, c].take n) ∧ q1.length ≤ 4 ∧ Hid (OwnInts wx w2.heap.size A1 c1 q1) ∧ Hid (Below w2.heap.size w2 wx))
  case first =>
    obtain ⟨SA1, SA2, SA3, SA4⟩ := SA.out
    obtain ⟨SB1, SB2, SB3, SB4⟩ := SB.out
    go_region_held3 (fun w' => w'.cell? ⟨w.heap.size, 0, none⟩ = some (.int .i64 k) ∧ w'.cell? ⟨w.heap.size, 1, none⟩ = some (.int .i64 a) ∧ w'.cell? ⟨w.heap.size, 2, none⟩ = some (.int .i64 b) ∧ w'.cell? ⟨w.heap.size, 3, none⟩ = some (.int .i64 c)) (first | go_keep | (exact ⟨(hX.cell (p := ⟨w.heap.size, 0, none⟩) hz2).trans x0, (hX.cell (p := ⟨w.heap.size, 1, none⟩) hz2).trans x1, (hX.cell (p := ⟨w.heap.size, 2, none⟩) hz2).trans x2, (hX.cell (p := ⟨w.heap.size, 3, none⟩) hz2).trans x3⟩)) ((first | (go_at_call 32; refine (fields_many k n _ HN.out).mono ?_; rintro e w5 ⟨rfl, rfl⟩) | (refine step_append_mem (by rfl) _ _ (by rfl) w2.heap.size _ 1 1 [k] (by rfl) (by rfl) SA1.out _ _ 3 n _ (take3_len a b c n hn3) (by rfl) SA2.out (by omega) SA4 ?_; intro A1 c1 w1 q1 hq1 hl1 O1 hB1; have hX := (Below.refl w2.heap.size w2).drew.trans (SA3.out.trans hB1.out)) | (refine step_append_mem (by rfl) _ _ (by rfl) w2.heap.size _ 1 1 [k] (by rfl) (by rfl) SB1.out _ _ 3 n _ (take3_len a b c n hn3) (by rfl) SB2.out (by omega) SB4 ?_; intro A1 c1 w1 q1 hq1 hl1 O1 hB1; have hX := (Below.refl w2.heap.size w2).drew.trans (SB3.out.trans hB1.out))))
    all_goals
      have lq : q1.length ≤ 4 := by have := hl1.out; omega
      have HX := Lib.hid hX
      clear hX
      go_wp2_with fail
      go_meet
      exact ⟨A1, c1, q1, rfl, hq1, lq, O1, HX⟩
  case rest =>
    obtain ⟨A1, c1, q1, rfl, HQ, lq, O1, B1⟩ := hcut
    clear SA SB hsl1 hsl2 f1 x0 x1 x2 x3 x4 x5 HN
    have XC := Lib.hid (X2.out.below B1.out hz2)
    obtain ⟨x0, x1, x2, x3, x4, x5⟩ := XC.out.cells
    go_upto_block 0 with fail
    go_cut [3] from 28 (fun l wx => ∃ (A4 : Option Addr) (c4 : Nat) (q4 : List Int), l = .slice A4 q4.length c4 ∧ Hid (q4 = N) ∧ Hid (OwnInts wx w2.heap.size A4 c4 q4) ∧ Hid (Below w2.heap.size w2 wx))
    case first =>
      have I1 := Lib.hid (I2.out.below (B1.out.mono (Nat.le_trans hBw (Nat.le_of_lt hz2))))
      have hzc : w2.heap.size ≤ wc.heap.size := B1.out.size
      clear I2 X2 CAT HV HY B2
      by_cases h2 : k = 2
      · obtain ⟨hr0, hrv, _⟩ := RV.out h2
        have hrl := rvalid_len hrv
        have RVV := Lib.hid (rvalid_rv hrv)
        have E1 := Lib.hid (show (q1 ++ [(rs.length : Int)]) ++ fdeltas (-2) (rs.drop 0) = N by rw [← E0.out, if_pos h2, HQ.out]; simp)
        clear RV hrv E0 HQ
        subst h2
        go_wp2_with (at_builtin; refine wpList_append_new [(rs.length : Int)] (by rfl) (.tmp 32) (.tmp 36) (by rfl) w2.heap.size A1 c1 q1 (by rfl) O1.out _ 1 (by rfl) (by rfl) (by rfl) (by omega) (by omega) hzc ?_; intro A3 c3 w3 q3 hq3 hl3 O3 hB3 G3; have B3 := Lib.hid (B1.out.trans hB3.out); have X3 := Lib.hid (XC.out.below hB3.out hz2); obtain ⟨y0, y1, y2, y3, y4, y5⟩ := X3.out.cells)
        have E3 := Lib.hid (show q3 ++ fdeltas (-2) (rs.drop 0) = N by rw [hq3.out]; exact E1.out)
        have I3 := Lib.hid (I1.out.below (hB3.out.mono (Nat.le_trans hBw (Nat.le_of_lt hz2))))
        clear hB3 G3 hq3 E1 X3 y0 y1 y2 y3 y4 y5 x0 x1 x2 x3 x4 x5 I1 O1
        go_loopw [3, 4, 41] (fun o la i wr => ∃ (j : Nat) (y : Int) (Ax : Option Addr) (cx : Nat) (xs : List Int), j ≤ rs.length ∧ i = .int .i64 j ∧ la = .int .i64 y ∧ o = .slice Ax xs.length cx ∧ -2 ≤ y ∧ y ≤ 999 ∧ Hid (rv y (rs.drop j) = true) ∧ Hid (xs ++ fdeltas y (rs.drop j) = N) ∧ xs.length ≤ 40 ∧ Hid (OwnInts wr w2.heap.size Ax cx xs) ∧ Hid (Below w2.heap.size w2 wr) ∧ Hid (RsIn wr B A rs)) (fun _ _ i _ => rs.length - (intOf i).toNat)
        case atStart => exact ⟨0, -2, A3, c3, q3, Nat.zero_le _, rfl, rfl, rfl, by omega, by omega, RVV.out, E3.out, by have := hl3.out; omega, O3.out, B3.out, I3.out⟩
        case round =>
          clear E3 O3 B3 I3 hl3
          obtain ⟨j, y, Ax, cx, xs, hj, rfl, rfl, rfl, hy0, hy1, hr, hE, hxl, hO, hB, hI⟩ := hrel
          have hzr : w2.heap.size ≤ wr.heap.size := hB.out.size
          by_cases hlt : j < rs.length
          · obtain ⟨g, off, rfl, hgB, hc⟩ := hI.out (by omega)
            obtain ⟨g1, g2⟩ := hc j hlt
            have T := Lib.hid (rv_step hlt hr.out)
            have U := Lib.hid (show fdeltas y (rs.drop j) = ((rs.getD j (0, 0)).1 - y - 2) :: ((rs.getD j (0, 0)).2 - (rs.getD j (0, 0)).1) :: fdeltas (rs.getD j (0, 0)).2 (rs.drop (j + 1)) by
              rw [List.drop_eq_getElem_cons hlt, List.getD_eq_getElem?_getD, List.getElem?_eq_getElem hlt]; rfl)
            clear hc
            generalize rs.getD j (0, 0) = p at g1 g2 T U
            obtain ⟨lo, hi⟩ := p
            simp only at g1 g2 T U
            obtain ⟨t1, t2, t3, t4⟩ := T.out
            have T4 := Lib.hid t4
            clear T t4
            have OR := Lib.hid (hO.out.alloc (.cells #[.int .i64 lo, .int .i64 hi] 53))
            have hza : w2.heap.size ≤ (wr.alloc (.cells #[.int .i64 lo, .int .i64 hi] 53)).heap.size := by simp; omega
            have cr : ((wr.alloc (.cells #[.int .i64 lo, .int .i64 hi] 53)).alloc (.cells #[.int .i64 (lo - y - 2), .int .i64 (hi - lo)] 3)).cell? ⟨wr.heap.size, 1, none⟩ = some (.int .i64 hi) := by
              rw [World.cell?_alloc_lt _ _ _ (by simp), cell_of_row _ _ _ _ _ _ (heap_alloc_new wr _)]; rfl
            have hnr : (Value.slice Ax xs.length cx).ownBlock ≠ some wr.heap.size := fun e => by
              have := (World.ownsRow.lt hO.out _ e).2; omega
            have CR := Lib.hid cr
            have NR := Lib.hid hnr
            clear cr hnr
            go_wp2_with (at_builtin; refine wpList_append_new [lo - y - 2, hi - lo] (by rfl) (.tmp 45) (.tmp 56) (by rfl) w2.heap.size Ax cx xs (by rfl) OR.out _ 2 (by rfl) (by first | rfl | simp) (by rfl) (by omega) (by omega) hza ?_; intro A4 c4 w4 q4 hq4 hl4 O4 hB4 G4; have z1 := G4.out.cell CR.out (fun e => NR.out e.symm))
            have B4 := Lib.hid ((hB.out.alloc hB.out.size (.cells #[.int .i64 lo, .int .i64 hi] 53)).trans hB4.out)
            have I4 := Lib.hid (hI.out.below (((Below.refl B wr).alloc (by omega) (.cells #[.int .i64 lo, .int .i64 hi] 53)).trans (hB4.out.mono (by omega))))
            have E4 := Lib.hid (show q4 ++ fdeltas hi (rs.drop (j + 1)) = N by rw [← hE.out, U.out, hq4.out, List.append_assoc]; rfl)
            have L4 : q4.length ≤ 40 := by
              have h1 := congrArg List.length E4.out
              rw [List.length_append] at h1
              omega
            clear hB4 G4 hq4 hl4 z1 g1 g2 CR NR OR
            go_roundw
            case rel => exact ⟨j + 1, hi, A4, c4, q4, by omega, by go_num, rfl, rfl, by omega, by omega, T4.out, E4.out, L4, O4.out, B4.out, I4.out⟩
            case measure => simp [intOf]; omega
          · have hj' : j = rs.length := by omega
            have E := Lib.hid (show xs = N by
              have h := hE.out
              rw [hj', List.drop_length] at h
              simpa [fdeltas] using h)
            clear hj'
            go_wp2_with fail
            go_meet
            exact ⟨Ax, cx, xs, rfl, E.out, hO.out, hB.out⟩
      · have e2 : (k == 2) = false := beq_eq_false_iff_ne.2 h2
        by_cases hk : k = 3 ∨ k = 9
        · have E1 := Lib.hid (show q1 ++ [(s.size : Int)] = N by rw [← E0.out, if_neg h2, if_pos hk, HQ.out])
          clear RV E0 HQ h2
          rcases hk with rfl | rfl
          all_goals
            go_wp2_with (at_builtin; refine wpList_append_new [(s.size : Int)] (by rfl) (.tmp 64) (.tmp 68) (by rfl) w2.heap.size A1 c1 q1 (by rfl) O1.out _ 1 (by rfl) (by rfl) (by rfl) (by omega) (by omega) hzc ?_; intro A3 c3 w3 q3 hq3 hl3 O3 hB3 G3)
            have B3 := Lib.hid (B1.out.trans hB3.out)
            have E3 := Lib.hid (show q3 = N by rw [hq3.out]; exact E1.out)
            clear hB3 G3 hq3 E1
            go_wp2_with fail
            go_meet
            exact ⟨A3, c3, q3, rfl, E3.out, O3.out, B3.out⟩
        · have e3 : (k == 3) = false := beq_eq_false_iff_ne.2 (by omega)
          have e9 : (k == 9) = false := beq_eq_false_iff_ne.2 (by omega)
          have E1 := Lib.hid (show q1 = N by rw [← E0.out, if_neg h2, if_neg hk, HQ.out, List.append_nil])
          clear RV E0 HQ h2 hk
          go_wp2_with fail
          go_meet
          exact ⟨A1, c1, q1, rfl, E1.out, O1.out, B1.out⟩
    case rest =>
      clear x0 x1 x2 x3 x4 x5 XC O1 B1 HQ E0 RV I2
      obtain ⟨A4, c4, q4, rfl, HQ4, O4, B4⟩ := hcut
      have hz4 : w.heap.size < wc.heap.size := Nat.lt_of_lt_of_le hz2 B4.out.size
      have X4 := Lib.hid (X2.out.below B4.out hz2)
      have BW := Lib.hid (B2.out.trans (B4.out.mono (Nat.le_of_lt hz2)))
      have hN : q4 = N := HQ4.out
      have HQ5 := Lib.hid hN
      subst hN
      clear HQ4 X2 B2 B4
      have L0 := Lib.hid O4.out.in_
      have D0 := Lib.hid (Bld.fresh wc)
      have W0 := Lib.hid ((Below.refl wc.heap.size wc).alloc (Nat.le_refl _) (.cells #[.pointer none, .slice none 0 0] 56))
      clear O4
      go_wp2_with fail
      go_loopw [72] (fun i wr => ∃ j : Nat, j ≤ q4.length ∧ i = .int .i64 j ∧ Hid (Bld wr wc.heap.size wc.heap.size (vjoin (q4.take j))) ∧ Hid (Below wc.heap.size wc wr)) (fun i _ => q4.length - (intOf i).toNat)
      case atStart => exact ⟨0, Nat.zero_le _, rfl, D0.out, W0.out⟩
      case round =>
        clear D0 W0
        obtain ⟨j, hj, rfl, hD, hW⟩ := hrel
        have hzr : wc.heap.size ≤ wr.heap.size := hW.out.size
        by_cases hlt : j < q4.length
        · obtain ⟨g, off, rfl, hg, hc⟩ := (L0.out.below hW.out) (by omega)
          have g1 := hc j hlt
          have T := Lib.hid (take_all_venc q4 j hlt)
          have tl := vjoin_len (q4.take j)
          have tl2 := List.length_take_le j q4
          clear hc
          generalize q4.getD j 0 = v at g1 T
          have vl := venc_len' v
          have vs := size_of_list ⟨(venc v).toArray⟩ (venc v) rfl
          go_wp2_with fail
          refine (iencode_any v wr).mono ?_
          rintro e w5 ⟨rfl, hB5⟩
          have D5 := Lib.hid (hD.out.below hB5)
          have W5 := Lib.hid (hW.out.trans (hB5.mono hzr))
          have hz5 : wc.heap.size ≤ w5.heap.size := Nat.le_trans hzr hB5.size
          clear hB5
          go_wp2_with fail
          refine (write_any wc.heap.size wc.heap.size (vjoin (q4.take j)) ⟨(venc v).toArray⟩ w5 D5.out (by rw [vs]; omega) hz5).mono ?_
          rintro e w6 ⟨rfl, hD6, hB6⟩
          have D6 := Lib.hid (show Bld w6 wc.heap.size wc.heap.size (vjoin (q4.take (j + 1))) by rw [T.out]; simpa using hD6)
          have W6 := Lib.hid (W5.out.trans hB6)
          clear hD6 hB6
          go_wp2_with fail
          go_roundw
          case rel => exact ⟨j + 1, by omega, by go_num, D6.out, W6.out⟩
          case measure => simp [intOf]; omega
        · have hj' : j = q4.length := by omega
          have D6 := Lib.hid (show Bld wr wc.heap.size wc.heap.size y by
            have h := hD.out
            rw [hj', List.take_of_length_le (Nat.le_refl _), HY.out] at h; exact h)
          have X6 := Lib.hid (X4.out.below hW.out hz4)
          obtain ⟨x0, x1, x2, x3, x4, x5⟩ := X6.out.cells
          have cat := CAT.out
          have BR := Lib.hid (BW.out.trans (hW.out.mono (Nat.le_of_lt hz4)))
          clear hj' hD
          go_wp2_with fail
          go_region_held3 (fun w' => w'.cell? ⟨w.heap.size, 4, none⟩ = some (.string s)) (first | go_keep | (exact (hX.cell (p := ⟨w.heap.size, 4, none⟩) hz4).trans x4)) ((first | (go_at_call 35; refine (read_any wc.heap.size wc.heap.size y _ (D6.out.below (Below.refl _ _).drew) hzr).mono ?_; rintro e w7 ⟨rfl, hB7⟩; have hX := (Below.refl wc.heap.size wr).drew.trans hB7)))
          have D := Lib.hid (show StrPost w x (.returned (.string ⟨x.toArray⟩)) w7 from ⟨rfl, BR.out.trans (hX.mono (Nat.le_of_lt hz4))⟩)
          clear hX hB7
          go_wp2
          go_ret
          exact D.out
theorem ifenc_any (k a b c : Int) (s : ByteArray) (B : Nat) (rs : List Rg) (A : Option Addr) (cap : Nat) (w : World) (hI : RsIn w B A rs) (hBw : B ≤ w.heap.size) (hm : rs.length ≤ 2000000) (hs : s.size ≤ 1000000000000) (x : List UInt8) (hx : fenc ⟨k, a, b, c, s.data.toList, rs⟩ = x) :
    Calls Try.prog 12 #[.agg #[.int .i64 k, .int .i64 a, .int .i64 b, .int .i64 c, .string s, .slice A rs.length cap]] w (StrPost w x) := by
  obtain ⟨q, hq⟩ : ∃ q, fvalid ⟨k, a, b, c, s.data.toList, rs⟩ = q := ⟨_, rfl⟩
  cases q with
  | true => exact ifenc_yes k a b c s B rs A cap w hI hBw hm hs hq x (by rw [← hx]; unfold fenc; rw [hq]; rfl)
  | false =>
    have hxx : x = [] := by rw [← hx]; unfold fenc; rw [hq]; rfl
    have B0 := Lib.hid ((Below.refl w.heap.size w).alloc (Nat.le_refl _) (.cells #[.int .i64 k, .int .i64 a, .int .i64 b, .int .i64 c, .string s, .slice A rs.length cap] 25))
    have I0 := Lib.hid (hI.below (B0.out.mono hBw))
    have FC := Lib.hid (ifv_of k a b c s B rs A cap _ I0.out (Nat.le_trans hBw B0.out.size) hm hs false hq)
    clear hI hx hq
    subst hxx
    go_enter Try.func12, Try.ntmps12
    go_wp2_with fail
    refine FC.out.mono ?_
    rintro e w2 ⟨rfl, hB⟩
    have B2 := Lib.hid (drew2 B0.out hB)
    clear hB
    go_wp2
    go_ret
    exact ⟨rfl, B2.out⟩
end Go.Proofs.Ytibnjbbiagjnjaa
