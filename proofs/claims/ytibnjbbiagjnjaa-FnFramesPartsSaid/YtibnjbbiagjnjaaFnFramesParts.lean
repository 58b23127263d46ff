/- Proved: the law FnFramesParts returns true for every input and leaves its arguments as they were: The encoding of a packet is that of its frames. (P39) No condition. -/
import Derived.Test.YtibnjbbiagjnjaaRows
import Derived.WalkKit
import Derived.ProofKit
import Derived.OpenShut
import Derived.ShutString
import Derived.ChangeOld
import Derived.Below
import Derived.Test.YtibnjbbiagjnjaaHead
import Derived.Test.YtibnjbbiagjnjaaGDraw
namespace Go.Proofs.Ytibnjbbiagjnjaa.fnFramesParts
open Go.ChangeShapes Go.WideShapes Go.ChangeAt Go.RowKit
open Go.ChangeMaps (open_string shut_string)
set_option linter.unusedVariables false

theorem own : ownKnob Try.prog.godebug = none := by kernel_rfl
theorem laidOut : laidOutB Try.prog = true := by kernel_rfl

section
variable {fs : List Fv} {B : Nat} {A : Option Addr} {c : Nat} {w : World} {x : ByteArray} {ok : Bool}
theorem big_fr (h : ∀ v ∈ fs, v.rs.length ≤ 40 ∧ v.s.size ≤ 24) : ∀ v ∈ fs, v.rs.length ≤ 2000000 ∧ v.s.size ≤ 1000000000 := fun v hv => ⟨Nat.le_trans (h v hv).1 (by decide), Nat.le_trans (h v hv).2 (by decide)⟩
theorem ifs_r (hO : OwnFs w B A c fs) (hl : fs.length ≤ 1000) (hs : ∀ v ∈ fs, v.rs.length ≤ 40 ∧ v.s.size ≤ 24) (hx : pout fs = x) (ho : pok fs = ok) : Calls Try.prog 18 #[.slice A fs.length c] w (FsPost w x ok) :=
  ifs_any w.heap.size A fs c w hO.in_ (Nat.le_refl _) (Nat.le_trans hl (by decide)) (big_fr hs) x ok hx ho
theorem sfs_r (hO : OwnFs w B A c fs) (hl : fs.length ≤ 1000) (hs : ∀ v ∈ fs, v.rs.length ≤ 40 ∧ v.s.size ≤ 24) (hx : pout fs = x) (ho : pok fs = ok) : Calls Try.prog 16 #[.slice A fs.length c] w (FsPost w x ok) :=
  sfs_any w.heap.size A fs c w hO.in_ (Nat.le_refl _) (Nat.le_trans hl (by decide)) (big_fr hs) x ok hx ho
end
def tcat (fs : List Fv) : List UInt8 := (fs.map fun v => fenc v.fr).flatten
theorem tcat_take_succ {fs : List Fv} {k : Nat} (h : k < fs.length) : tcat (fs.take (k + 1)) = tcat (fs.take k) ++ fenc (fs.getD k fv0).fr := by
  rw [List.take_succ_eq_append_getElem h, List.getD_eq_getElem?_getD, List.getElem?_eq_getElem h]
  unfold tcat
  rw [List.map_append, List.flatten_append, List.map_singleton, List.flatten_singleton]
  rfl
theorem pall_take_succ {fs : List Fv} {k : Nat} (h : k < fs.length) : pall (fs.take (k + 1)) = (pall (fs.take k) && fvalid (fs.getD k fv0).fr) := by
  rw [List.take_succ_eq_append_getElem h, List.getD_eq_getElem?_getD, List.getElem?_eq_getElem h]
  unfold pall
  rw [List.all_append]
  simp
theorem tcat_valid {fs : List Fv} (h : pall fs = true) : tcat fs = pcat fs := by
  unfold tcat pcat
  congr 1
  refine List.map_congr_left fun v hv => ?_
  unfold pall at h
  rw [List.all_eq_true] at h
  unfold fenc
  rw [h v hv]; rfl
theorem fenc_len (f : Fr) : (fenc f).length ≤ 172 := by
  unfold fenc
  split
  · exact fraw_len (by assumption)
  · simp
theorem dec_le (n : Nat) (b : Bool) (h : decide (n ≤ 6) = b) : decide ((n : Int) ≤ 6) = b := by
  rw [← h]; congr 1; exact propext ⟨fun h => by omega, fun h => by omega⟩

theorem walk (a0 : Option Addr) (len0 cap0 : Nat) (z0 : List Int) (w : World) (w0 : IsRow .u8 w a0 len0 cap0 z0) :
    Calls Try.prog 5 #[.slice a0 len0 cap0] w fun e w' => e = .returned (.bool true) ∧ Below w.heap.size w w' := by
  have hc := codeArg_of w0
  have hl := hc.1
  have hm := hc.2.1
  have HC := Lib.hid hc
  clear w0 hc
  by_cases h1 : len0 ≤ 1048576
  · have BB0 := Lib.hid (Below.refl w.heap.size w)
    go_enter Try.func5, Try.ntmps5
    go_wp2_with fail
    refine (drawFs_any a0 len0 cap0 w HC.out).mono ?_
    rintro e v1 ⟨A_L, c_L, fs, rfl, hfl, hs, hO, hB⟩
    have L1 := Lib.hid hO
    have B1 := Lib.hid (drew2 BB0.out hB)
    clear hO hB BB0
    obtain ⟨x, HX⟩ : ∃ x, Hid (pout fs = x) := ⟨_, rfl⟩
    obtain ⟨ok, HK⟩ : ∃ b, Hid (pok fs = b) := ⟨_, rfl⟩
    go_wp2_with fail
    with_reducible refine (ifs_r L1.out (by omega) hs.out HX.out HK.out).mono ?_
    rintro e v2 ⟨rfl, hB⟩
    have L2 := Lib.hid (L1.out.below hB)
    have B2 := Lib.hid (drew2 B1.out hB)
    clear hB L1 B1
    go_wp2_with fail
    with_reducible refine (sfs_r L2.out (by omega) hs.out HX.out HK.out).mono ?_
    rintro e v3 ⟨rfl, hB⟩
    have L3 := Lib.hid (L2.out.below hB)
    have B3 := Lib.hid (drew2 B2.out hB)
    clear hB L2 B2
    by_cases h0 : 1 ≤ fs.length
    · have p0 : 0 < fs.length := h0
      by_cases h6 : fs.length ≤ 6
      · have PK := Lib.hid (show pok fs = (true && pall fs) by unfold pok; rw [decide_eq_true h0, decide_eq_true h6]; rfl)
        clear h0
        go_wp2_with fail
        go_loopw [8, 9, 10] (fun tx gd i wr => ∃ (j : Nat) (t : ByteArray) (g : Bool), j ≤ fs.length ∧ i = .int .i64 j ∧ tx = .string t ∧ gd = .bool g ∧ t.size ≤ 172 * j ∧ Hid (g = (true && pall (fs.take j))) ∧ Hid (t.data.toList = tcat (fs.take j)) ∧ Hid (Below v3.heap.size v3 wr)) (fun _ _ i _ => fs.length - (intOf i).toNat)
        case atStart => exact ⟨0, ⟨#[]⟩, true, Nat.zero_le _, rfl, rfl, by first | rfl | exact congrArg Value.bool (dec_le _ _ (by first | exact decide_eq_true h6 | exact decide_eq_false h6)), by decide, rfl, rfl, Below.refl _ _⟩
        case round =>
          obtain ⟨j, t, g, hj, rfl, rfl, rfl, htl, hg, ht, hB⟩ := hrel
          by_cases hlt : j < fs.length
          · obtain ⟨b, off, rfl, hbB, hcc⟩ := (L3.out.in_.below hB.out) (by omega)
            obtain ⟨Ai, ci, hc6, hI⟩ := hcc j hlt
            have S := Lib.hid (pall_take_succ hlt)
            have U := Lib.hid (tcat_take_succ hlt)
            obtain ⟨m1, m2⟩ := hs.out _ (getD_memF hlt)
            clear hcc
            generalize fs.getD j fv0 = v at hc6 hI S U m1 m2
            obtain ⟨vk, va, vb, vc, vs, vr⟩ := v
            obtain ⟨c0, c1, c2, c3, c4, c5⟩ := six_cells hc6
            simp only at c0 c1 c2 c3 c4 c5 hI m1 m2
            have II := Lib.hid hI
            have hbs : b < wr.heap.size := Nat.lt_of_lt_of_le hbB hB.out.size
            have hBr : v3.heap.size ≤ wr.heap.size := hB.out.size
            clear hc6 hI
            obtain ⟨q, HQ⟩ : ∃ q, Hid (fvalid ⟨vk, va, vb, vc, vs.data.toList, vr⟩ = q) := ⟨_, rfl⟩
            obtain ⟨y, hy⟩ : ∃ y, fenc ⟨vk, va, vb, vc, vs.data.toList, vr⟩ = y := ⟨_, rfl⟩
            have yl : y.length ≤ 172 := by rw [← hy]; exact fenc_len _
            have ys := size_of_list ⟨y.toArray⟩ y rfl
            have T2 := Lib.hid (show (t ++ ⟨y.toArray⟩).data.toList = tcat (fs.take (j + 1)) by rw [U.out, bytes_add ht.out]; show _ ++ y = _ ++ fenc ⟨vk, va, vb, vc, vs.data.toList, vr⟩; rw [hy])
            have TL : (t ++ ⟨y.toArray⟩).size ≤ 172 * (j + 1) := by rw [ByteArray.size_append, ys]; omega
            have cat : ∀ W, (Op.stringOp .add t ⟨y.toArray⟩).run Try.prog W = .ok (.string (t ++ ⟨y.toArray⟩)) W := fun W => run_string_add_sum W _ _ (by rw [ys]; omega)
            have HY := Lib.hid hy
            have S2 := Lib.hid (show pall (fs.take (j + 1)) = (pall (fs.take j) && q) by rw [S.out, ← HQ.out]; rfl)
            clear hy ys yl S U
            go_wp2_with fail
            refine (ifenc_any vk va vb vc vs v3.heap.size vr Ai ci wr II.out hBr (by omega) (by omega) y HY.out).mono ?_
            rintro e w2 ⟨rfl, hB2⟩
            have e0 := (hB2.cell (p := ⟨b, off + j * 6, none⟩) hbs).trans c0
            have e1 := (hB2.cell (p := ⟨b, off + j * 6 + 1, none⟩) hbs).trans c1
            have e2 := (hB2.cell (p := ⟨b, off + j * 6 + 2, none⟩) hbs).trans c2
            have e3 := (hB2.cell (p := ⟨b, off + j * 6 + 3, none⟩) hbs).trans c3
            have e4 := (hB2.cell (p := ⟨b, off + j * 6 + 4, none⟩) hbs).trans c4
            have e5 := (hB2.cell (p := ⟨b, off + j * 6 + 5, none⟩) hbs).trans c5
            have I2 := Lib.hid (II.out.below (hB2.mono hBr))
            have B2 := Lib.hid (hB.out.trans (hB2.mono hBr))
            have hB2s : v3.heap.size ≤ w2.heap.size := Nat.le_trans hBr hB2.size
            clear hB2 c0 c1 c2 c3 c4 c5 II
            cases g with
            | false =>
              have G2 := Lib.hid (show false = (true && pall (fs.take (j + 1))) by
                have h := hg.out
                rw [S2.out, ← Bool.and_assoc, ← h]; rfl)
              go_wp2_with fail
              go_roundw
              case rel => exact ⟨j + 1, _, false, by omega, by go_num, rfl, rfl, TL, G2.out, T2.out, B2.out⟩
              case measure => simp [intOf]; omega
            | true =>
              have G2 := Lib.hid (show q = (true && pall (fs.take (j + 1))) by
                have h := hg.out
                rw [S2.out, ← Bool.and_assoc, ← h]; rfl)
              go_wp2_with fail
              refine (ifv_any vk va vb vc vs v3.heap.size vr Ai ci w2 I2.out hB2s (by omega) q HQ.out).mono ?_
              rintro e w4 ⟨rfl, hB4⟩
              have B4 := Lib.hid (B2.out.trans (hB4.mono hB2s))
              clear hB4
              go_wp2_with fail
              go_roundw
              case rel => exact ⟨j + 1, _, q, by omega, by go_num, rfl, rfl, TL, G2.out, T2.out, B4.out⟩
              case measure => simp [intOf]; omega
          · have hj' : j = fs.length := by omega
            have gok : g = ok := by
              have h := hg.out
              rw [hj', List.take_of_length_le (Nat.le_refl _)] at h
              rw [h, ← HK.out, PK.out]
            have BF := Lib.hid (drew2 B3.out hB.out)
            have TX := Lib.hid (fun (h : ok = true) => (show t = x by
              have h2 := ht.out
              rw [hj', List.take_of_length_le (Nat.le_refl _)] at h2
              have hp := HK.out.trans h
              have pa : pall fs = true := by unfold pok at hp; exact (Bool.and_eq_true_iff.1 hp).2
              rw [tcat_valid pa] at h2
              rw [← HX.out, pout_yes hp]
              exact bytes_ext h2))
            clear hj' hg ht
            subst gok
            cases g with
            | false =>
              go_wp2_with fail
              go_ret
              exact ⟨rfl, BF.out⟩
            | true =>
              have e := TX.out rfl
              clear TX
              subst e
              go_wp2_with fail
              go_ret
              exact ⟨rfl, BF.out⟩
      · have PK := Lib.hid (show pok fs = (false && pall fs) by unfold pok; rw [decide_eq_true h0, decide_eq_false h6]; rfl)
        clear h0
        go_wp2_with fail
        go_loopw [8, 9, 10] (fun tx gd i wr => ∃ (j : Nat) (t : ByteArray) (g : Bool), j ≤ fs.length ∧ i = .int .i64 j ∧ tx = .string t ∧ gd = .bool g ∧ t.size ≤ 172 * j ∧ Hid (g = (false && pall (fs.take j))) ∧ Hid (t.data.toList = tcat (fs.take j)) ∧ Hid (Below v3.heap.size v3 wr)) (fun _ _ i _ => fs.length - (intOf i).toNat)
        case atStart => exact ⟨0, ⟨#[]⟩, false, Nat.zero_le _, rfl, rfl, by first | rfl | exact congrArg Value.bool (dec_le _ _ (by first | exact decide_eq_true h6 | exact decide_eq_false h6)), by decide, rfl, rfl, Below.refl _ _⟩
        case round =>
          obtain ⟨j, t, g, hj, rfl, rfl, rfl, htl, hg, ht, hB⟩ := hrel
          by_cases hlt : j < fs.length
          · obtain ⟨b, off, rfl, hbB, hcc⟩ := (L3.out.in_.below hB.out) (by omega)
            obtain ⟨Ai, ci, hc6, hI⟩ := hcc j hlt
            have S := Lib.hid (pall_take_succ hlt)
            have U := Lib.hid (tcat_take_succ hlt)
            obtain ⟨m1, m2⟩ := hs.out _ (getD_memF hlt)
            clear hcc
            generalize fs.getD j fv0 = v at hc6 hI S U m1 m2
            obtain ⟨vk, va, vb, vc, vs, vr⟩ := v
            obtain ⟨c0, c1, c2, c3, c4, c5⟩ := six_cells hc6
            simp only at c0 c1 c2 c3 c4 c5 hI m1 m2
            have II := Lib.hid hI
            have hbs : b < wr.heap.size := Nat.lt_of_lt_of_le hbB hB.out.size
            have hBr : v3.heap.size ≤ wr.heap.size := hB.out.size
            clear hc6 hI
            obtain ⟨q, HQ⟩ : ∃ q, Hid (fvalid ⟨vk, va, vb, vc, vs.data.toList, vr⟩ = q) := ⟨_, rfl⟩
            obtain ⟨y, hy⟩ : ∃ y, fenc ⟨vk, va, vb, vc, vs.data.toList, vr⟩ = y := ⟨_, rfl⟩
            have yl : y.length ≤ 172 := by rw [← hy]; exact fenc_len _
            have ys := size_of_list ⟨y.toArray⟩ y rfl
            have T2 := Lib.hid (show (t ++ ⟨y.toArray⟩).data.toList = tcat (fs.take (j + 1)) by rw [U.out, bytes_add ht.out]; show _ ++ y = _ ++ fenc ⟨vk, va, vb, vc, vs.data.toList, vr⟩; rw [hy])
            have TL : (t ++ ⟨y.toArray⟩).size ≤ 172 * (j + 1) := by rw [ByteArray.size_append, ys]; omega
            have cat : ∀ W, (Op.stringOp .add t ⟨y.toArray⟩).run Try.prog W = .ok (.string (t ++ ⟨y.toArray⟩)) W := fun W => run_string_add_sum W _ _ (by rw [ys]; omega)
            have HY := Lib.hid hy
            have S2 := Lib.hid (show pall (fs.take (j + 1)) = (pall (fs.take j) && q) by rw [S.out, ← HQ.out]; rfl)
            clear hy ys yl S U
            go_wp2_with fail
            refine (ifenc_any vk va vb vc vs v3.heap.size vr Ai ci wr II.out hBr (by omega) (by omega) y HY.out).mono ?_
            rintro e w2 ⟨rfl, hB2⟩
            have e0 := (hB2.cell (p := ⟨b, off + j * 6, none⟩) hbs).trans c0
            have e1 := (hB2.cell (p := ⟨b, off + j * 6 + 1, none⟩) hbs).trans c1
            have e2 := (hB2.cell (p := ⟨b, off + j * 6 + 2, none⟩) hbs).trans c2
            have e3 := (hB2.cell (p := ⟨b, off + j * 6 + 3, none⟩) hbs).trans c3
            have e4 := (hB2.cell (p := ⟨b, off + j * 6 + 4, none⟩) hbs).trans c4
            have e5 := (hB2.cell (p := ⟨b, off + j * 6 + 5, none⟩) hbs).trans c5
            have I2 := Lib.hid (II.out.below (hB2.mono hBr))
            have B2 := Lib.hid (hB.out.trans (hB2.mono hBr))
            have hB2s : v3.heap.size ≤ w2.heap.size := Nat.le_trans hBr hB2.size
            clear hB2 c0 c1 c2 c3 c4 c5 II
            cases g with
            | false =>
              have G2 := Lib.hid (show false = (false && pall (fs.take (j + 1))) by
                have h := hg.out
                rw [S2.out, ← Bool.and_assoc, ← h]; rfl)
              go_wp2_with fail
              go_roundw
              case rel => exact ⟨j + 1, _, false, by omega, by go_num, rfl, rfl, TL, G2.out, T2.out, B2.out⟩
              case measure => simp [intOf]; omega
            | true =>
              have G2 := Lib.hid (show q = (false && pall (fs.take (j + 1))) by
                have h := hg.out
                rw [S2.out, ← Bool.and_assoc, ← h]; rfl)
              go_wp2_with fail
              refine (ifv_any vk va vb vc vs v3.heap.size vr Ai ci w2 I2.out hB2s (by omega) q HQ.out).mono ?_
              rintro e w4 ⟨rfl, hB4⟩
              have B4 := Lib.hid (B2.out.trans (hB4.mono hB2s))
              clear hB4
              go_wp2_with fail
              go_roundw
              case rel => exact ⟨j + 1, _, q, by omega, by go_num, rfl, rfl, TL, G2.out, T2.out, B4.out⟩
              case measure => simp [intOf]; omega
          · have hj' : j = fs.length := by omega
            have gok : g = ok := by
              have h := hg.out
              rw [hj', List.take_of_length_le (Nat.le_refl _)] at h
              rw [h, ← HK.out, PK.out]
            have BF := Lib.hid (drew2 B3.out hB.out)
            have TX := Lib.hid (fun (h : ok = true) => (show t = x by
              have h2 := ht.out
              rw [hj', List.take_of_length_le (Nat.le_refl _)] at h2
              have hp := HK.out.trans h
              have pa : pall fs = true := by unfold pok at hp; exact (Bool.and_eq_true_iff.1 hp).2
              rw [tcat_valid pa] at h2
              rw [← HX.out, pout_yes hp]
              exact bytes_ext h2))
            clear hj' hg ht
            subst gok
            cases g with
            | false =>
              go_wp2_with fail
              go_ret
              exact ⟨rfl, BF.out⟩
            | true =>
              have e := TX.out rfl
              clear TX
              subst e
              go_wp2_with fail
              go_ret
              exact ⟨rfl, BF.out⟩
    · have p0 : ¬ 0 < fs.length := h0
      have PK := Lib.hid (show pok fs = (false && pall fs) by unfold pok; rw [decide_eq_false h0]; rfl)
      clear h0
      go_wp2_with fail
      go_loopw [8, 9, 10] (fun tx gd i wr => ∃ (j : Nat) (t : ByteArray) (g : Bool), j ≤ fs.length ∧ i = .int .i64 j ∧ tx = .string t ∧ gd = .bool g ∧ t.size ≤ 172 * j ∧ Hid (g = (false && pall (fs.take j))) ∧ Hid (t.data.toList = tcat (fs.take j)) ∧ Hid (Below v3.heap.size v3 wr)) (fun _ _ i _ => fs.length - (intOf i).toNat)
      case atStart => exact ⟨0, ⟨#[]⟩, false, Nat.zero_le _, rfl, rfl, by first | rfl | exact congrArg Value.bool (dec_le _ _ (by first | exact decide_eq_true h6 | exact decide_eq_false h6)), by decide, rfl, rfl, Below.refl _ _⟩
      case round =>
        obtain ⟨j, t, g, hj, rfl, rfl, rfl, htl, hg, ht, hB⟩ := hrel
        by_cases hlt : j < fs.length
        · obtain ⟨b, off, rfl, hbB, hcc⟩ := (L3.out.in_.below hB.out) (by omega)
          obtain ⟨Ai, ci, hc6, hI⟩ := hcc j hlt
          have S := Lib.hid (pall_take_succ hlt)
          have U := Lib.hid (tcat_take_succ hlt)
          obtain ⟨m1, m2⟩ := hs.out _ (getD_memF hlt)
          clear hcc
          generalize fs.getD j fv0 = v at hc6 hI S U m1 m2
          obtain ⟨vk, va, vb, vc, vs, vr⟩ := v
          obtain ⟨c0, c1, c2, c3, c4, c5⟩ := six_cells hc6
          simp only at c0 c1 c2 c3 c4 c5 hI m1 m2
          have II := Lib.hid hI
          have hbs : b < wr.heap.size := Nat.lt_of_lt_of_le hbB hB.out.size
          have hBr : v3.heap.size ≤ wr.heap.size := hB.out.size
          clear hc6 hI
          obtain ⟨q, HQ⟩ : ∃ q, Hid (fvalid ⟨vk, va, vb, vc, vs.data.toList, vr⟩ = q) := ⟨_, rfl⟩
          obtain ⟨y, hy⟩ : ∃ y, fenc ⟨vk, va, vb, vc, vs.data.toList, vr⟩ = y := ⟨_, rfl⟩
          have yl : y.length ≤ 172 := by rw [← hy]; exact fenc_len _
          have ys := size_of_list ⟨y.toArray⟩ y rfl
          have T2 := Lib.hid (show (t ++ ⟨y.toArray⟩).data.toList = tcat (fs.take (j + 1)) by rw [U.out, bytes_add ht.out]; show _ ++ y = _ ++ fenc ⟨vk, va, vb, vc, vs.data.toList, vr⟩; rw [hy])
          have TL : (t ++ ⟨y.toArray⟩).size ≤ 172 * (j + 1) := by rw [ByteArray.size_append, ys]; omega
          have cat : ∀ W, (Op.stringOp .add t ⟨y.toArray⟩).run Try.prog W = .ok (.string (t ++ ⟨y.toArray⟩)) W := fun W => run_string_add_sum W _ _ (by rw [ys]; omega)
          have HY := Lib.hid hy
          have S2 := Lib.hid (show pall (fs.take (j + 1)) = (pall (fs.take j) && q) by rw [S.out, ← HQ.out]; rfl)
          clear hy ys yl S U
          go_wp2_with fail
          refine (ifenc_any vk va vb vc vs v3.heap.size vr Ai ci wr II.out hBr (by omega) (by omega) y HY.out).mono ?_
          rintro e w2 ⟨rfl, hB2⟩
          have e0 := (hB2.cell (p := ⟨b, off + j * 6, none⟩) hbs).trans c0
          have e1 := (hB2.cell (p := ⟨b, off + j * 6 + 1, none⟩) hbs).trans c1
          have e2 := (hB2.cell (p := ⟨b, off + j * 6 + 2, none⟩) hbs).trans c2
          have e3 := (hB2.cell (p := ⟨b, off + j * 6 + 3, none⟩) hbs).trans c3
          have e4 := (hB2.cell (p := ⟨b, off + j * 6 + 4, none⟩) hbs).trans c4
          have e5 := (hB2.cell (p := ⟨b, off + j * 6 + 5, none⟩) hbs).trans c5
          have I2 := Lib.hid (II.out.below (hB2.mono hBr))
          have B2 := Lib.hid (hB.out.trans (hB2.mono hBr))
          have hB2s : v3.heap.size ≤ w2.heap.size := Nat.le_trans hBr hB2.size
          clear hB2 c0 c1 c2 c3 c4 c5 II
          cases g with
          | false =>
            have G2 := Lib.hid (show false = (false && pall (fs.take (j + 1))) by
              have h := hg.out
              rw [S2.out, ← Bool.and_assoc, ← h]; rfl)
            go_wp2_with fail
            go_roundw
            case rel => exact ⟨j + 1, _, false, by omega, by go_num, rfl, rfl, TL, G2.out, T2.out, B2.out⟩
            case measure => simp [intOf]; omega
          | true =>
            have G2 := Lib.hid (show q = (false && pall (fs.take (j + 1))) by
              have h := hg.out
              rw [S2.out, ← Bool.and_assoc, ← h]; rfl)
            go_wp2_with fail
            refine (ifv_any vk va vb vc vs v3.heap.size vr Ai ci w2 I2.out hB2s (by omega) q HQ.out).mono ?_
            rintro e w4 ⟨rfl, hB4⟩
            have B4 := Lib.hid (B2.out.trans (hB4.mono hB2s))
            clear hB4
            go_wp2_with fail
            go_roundw
            case rel => exact ⟨j + 1, _, q, by omega, by go_num, rfl, rfl, TL, G2.out, T2.out, B4.out⟩
            case measure => simp [intOf]; omega
        · have hj' : j = fs.length := by omega
          have gok : g = ok := by
            have h := hg.out
            rw [hj', List.take_of_length_le (Nat.le_refl _)] at h
            rw [h, ← HK.out, PK.out]
          have BF := Lib.hid (drew2 B3.out hB.out)
          have TX := Lib.hid (fun (h : ok = true) => (show t = x by
            have h2 := ht.out
            rw [hj', List.take_of_length_le (Nat.le_refl _)] at h2
            have hp := HK.out.trans h
            have pa : pall fs = true := by unfold pok at hp; exact (Bool.and_eq_true_iff.1 hp).2
            rw [tcat_valid pa] at h2
            rw [← HX.out, pout_yes hp]
            exact bytes_ext h2))
          clear hj' hg ht
          subst gok
          cases g with
          | false =>
            go_wp2_with fail
            go_ret
            exact ⟨rfl, BF.out⟩
          | true =>
            have e := TX.out rfl
            clear TX
            subst e
            go_wp2_with fail
            go_ret
            exact ⟨rfl, BF.out⟩
  · go_enter Try.func5, Try.ntmps5
    go_wp2
    go_ret
    exact ⟨rfl, Below.refl _ _⟩

set_option maxRecDepth 100000 in
theorem lifted (os : Os) (started : os.Started) (H : Type) (enc : TypeId × Value → H) :
    ReturnsInHanded {} Try.checked os 5 .any (Rows.fnFramesPartsSpec.pre6 enc Try.prog Try.f5 Rows.fnFramesPartsRow.domain false) (Rows.fnFramesPartsSpec.post enc Try.prog Try.f5 false true false false) := by
  refine returnsInHanded_of_change (C := Try.checked) own started (by kernel_rfl) Try.func5
    (ChangeSpec.witness6 (enc := enc) (C := Try.checked) false ⟨#[], #[.slice none 0 0], []⟩ 8 (by kernel_rfl) (by kernel_rfl) (by kernel_rfl) (by kernel_rfl)) ?_
  intro W base args ds gs before hval0 hW hcnd _
  have hval : ∀ (j : Nat) t v, Try.f5.params[j]? = some t → args[j]? = some v → Value.okWide Try.prog W .any base t v := hval0
  have hW' := hW
  obtain ⟨p, q, hA0, hV, rfl, hfz, hnd⟩ := hW
  have hA : DataW.TrodAll enc Try.prog W 0 (fun _ => true) true Try.f5.params.toList args.toList ds p := hA0
  rw [Try.params5] at hA hval
  obtain ⟨v0, vs0, d0, ds0, p0, q0, hargs, rfl, rfl, h0, r0⟩ := trodAll_cons hA
  obtain ⟨rfl, rfl, rfl⟩ := trodAll_nil r0
  obtain rfl : args = #[v0] := by cases args; simp_all
  obtain ⟨rfl, rfl⟩ := trodVars_none hV
  obtain ⟨a0, len0, cap0, rfl⟩ := okWide_slice Try.underlying22 (hval 0 22 v0 rfl rfl)
  have k0 := h0
  have lt0 : ∀ x ∈ p0, x.block < W.heap.size := by obtain ⟨m, hm⟩ := k0; exact DataW.trod_lt m _ _ _ hm
  obtain ⟨z0, w0⟩ : ∃ zs, IsRow .u8 W a0 len0 cap0 zs := by
    obtain ⟨fuel, hf⟩ := h0
    rcases open_ints Try.underlying22 Try.underlying5 (by kernel_rfl) hf with ⟨hcs, _⟩ | ⟨x, l, c, zs, hcs, _, hl, hm, hz, _, hcell, hwz⟩
    · simp [Value.cells] at hcs
      obtain ⟨rfl, rfl, rfl⟩ := hcs
      exact ⟨[], .inl ⟨rfl, rfl, rfl, rfl⟩⟩
    · simp [Value.cells] at hcs
      obtain ⟨rfl, rfl, rfl⟩ := hcs
      exact ⟨zs, .inr ⟨_, rfl, hl, hm, by simpa using hz, hcell, hwz⟩⟩
  clear hA0 hval0
  refine (walk a0 len0 cap0 z0 W w0).mono fun e W' ⟨he, bel⟩ => ?_
  subst he
  exact ⟨_, rfl, _, _, _, [], _, [], hW', trodAll_mk1 (shut_bool Try.underlying4 _), (trodAll_cons_mk (Below.trod laidOut (by kernel_rfl) (of_decide_eq_true (by kernel_rfl)) k0 bel lt0) trodAll_mk0), rfl, bel.frame _, fun h => by cases h⟩

theorem closed : joinedFacts Try.prog 5 Try.f5 Rows.fnFramesPartsSpec Rows.fnFramesPartsRow = true := by
  unfold joinedFacts
  rw [mayEnter_ok, lifts_ok, make_ok]
  kernel_rfl

theorem over : Rows.fnFramesPartsRow.holds Try.pinned (OpenSpec.ofChange Rows.fnFramesPartsSpec) :=
  OpenClaim.holds_of_wide 5 Try.f5 rfl rfl rfl rfl rfl rfl rfl ⟨rfl, rfl, rfl, rfl, rfl⟩ rfl rfl rfl rfl rfl (by kernel_rfl) Try.func5 closed
    (of_decide_eq_true (by kernel_rfl)) (by unfold Func.isWrapper; first | (rw [if_pos (by decide +kernel)]; kernel_rfl) | (rw [if_neg (by decide +kernel)]; exact ⟨rfl, rfl⟩))
    (fun os started H enc _ => lifted os started H enc)

/-- ████ THE STATEMENT ████ -/
theorem proved : Rows.FnFramesPartsSaid := over
#print axioms proved
end Go.Proofs.Ytibnjbbiagjnjaa.fnFramesParts
