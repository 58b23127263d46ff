/- Slices of frames, and contracts of the encoding of a packet, the program's and the reference's. No condition but that the slices read as the list, and bounds on lengths. -/
import Derived.Test.YtibnjbbiagjnjaaFEncI
namespace Go.Proofs.Ytibnjbbiagjnjaa
open Go.RowKit
set_option linter.unusedVariables false
structure Fv where
  k : Int
  a : Int
  b : Int
  c : Int
  s : ByteArray
  rs : List Rg
def fv0 : Fv := ⟨0, 0, 0, 0, ⟨#[]⟩, []⟩
def Fv.fr (v : Fv) : Fr := ⟨v.k, v.a, v.b, v.c, v.s.data.toList, v.rs⟩
/-- The cells of a frame. -/
def vcells (v : Fv) (A : Option Addr) (c : Nat) : List Value := [.int .i64 v.k, .int .i64 v.a, .int .i64 v.b, .int .i64 v.c, .string v.s, .slice A v.rs.length c]
/-- The slice at A, as long as fs, reads as fs; what it reaches lies in blocks below B. -/
def FsIn (w : World) (B : Nat) (A : Option Addr) (fs : List Fv) : Prop :=
  0 < fs.length → ∃ b off, A = some ⟨b, off, none⟩ ∧ b < B ∧ ∀ i, i < fs.length → ∃ Ai ci, (∀ j u, (vcells (fs.getD i fv0) Ai ci)[j]? = some u → w.cell? ⟨b, off + i * 6 + j, none⟩ = some u) ∧ RsIn w B Ai (fs.getD i fv0).rs
theorem FsIn.below {w w' : World} {B : Nat} {A : Option Addr} {fs : List Fv} (h : FsIn w B A fs) (hb : Below B w w') : FsIn w' B A fs := fun h0 => by
  obtain ⟨b, off, hA, hlt, hc⟩ := h h0
  refine ⟨b, off, hA, hlt, fun i hi => ?_⟩
  obtain ⟨Ai, ci, c1, c2⟩ := hc i hi
  exact ⟨Ai, ci, fun j u hj => (hb.cell (p := ⟨b, off + i * 6 + j, none⟩) hlt).trans (c1 j u hj), c2.below hb⟩
theorem FsIn.mono {w : World} {B B' : Nat} {A : Option Addr} {fs : List Fv} (h : FsIn w B A fs) (hB : B ≤ B') : FsIn w B' A fs := fun h0 => by
  obtain ⟨b, off, hA, hlt, hc⟩ := h h0
  refine ⟨b, off, hA, by omega, fun i hi => ?_⟩
  obtain ⟨Ai, ci, c1, c2⟩ := hc i hi
  exact ⟨Ai, ci, c1, c2.mono hB⟩
theorem FsIn.nil (w : World) (B : Nat) (A : Option Addr) : FsIn w B A [] := fun h => absurd h (by simp)
theorem six_cells {w : World} {b o : Nat} {v : Fv} {A : Option Addr} {c : Nat} (h : ∀ j u, (vcells v A c)[j]? = some u → w.cell? ⟨b, o + j, none⟩ = some u) :
    w.cell? ⟨b, o, none⟩ = some (.int .i64 v.k) ∧ w.cell? ⟨b, o + 1, none⟩ = some (.int .i64 v.a) ∧ w.cell? ⟨b, o + 2, none⟩ = some (.int .i64 v.b) ∧ w.cell? ⟨b, o + 3, none⟩ = some (.int .i64 v.c) ∧ w.cell? ⟨b, o + 4, none⟩ = some (.string v.s) ∧ w.cell? ⟨b, o + 5, none⟩ = some (.slice A v.rs.length c) :=
  ⟨h 0 _ rfl, h 1 _ rfl, h 2 _ rfl, h 3 _ rfl, h 4 _ rfl, h 5 _ rfl⟩
theorem getD_memF {fs : List Fv} {k : Nat} (h : k < fs.length) : fs.getD k fv0 ∈ fs := by
  rw [List.getD_eq_getElem?_getD, List.getElem?_eq_getElem h]
  exact List.getElem_mem h
/-! ### the plain law -/
def pall (fs : List Fv) : Bool := fs.all fun v => fvalid v.fr
def pcat (fs : List Fv) : List UInt8 := (fs.map fun v => fraw v.fr).flatten
def pok (fs : List Fv) : Bool := (decide (1 ≤ fs.length) && decide (fs.length ≤ 6)) && pall fs
def pout (fs : List Fv) : ByteArray := if pok fs then ⟨(pcat fs).toArray⟩ else ⟨#[]⟩
theorem pall_drop_succ {fs : List Fv} {k : Nat} (h : k < fs.length) : pall (fs.drop k) = (fvalid (fs.getD k fv0).fr && pall (fs.drop (k + 1))) := by
  rw [List.drop_eq_getElem_cons h, List.getD_eq_getElem?_getD, List.getElem?_eq_getElem h]; rfl
theorem pcat_take_succ {fs : List Fv} {k : Nat} (h : k < fs.length) : pcat (fs.take (k + 1)) = pcat (fs.take k) ++ fraw (fs.getD k fv0).fr := by
  rw [List.take_succ_eq_append_getElem h, List.getD_eq_getElem?_getD, List.getElem?_eq_getElem h]
  unfold pcat
  rw [List.map_append, List.flatten_append, List.map_singleton, List.flatten_singleton]
  rfl
theorem pok_int (n : Nat) : (decide ((1 : Int) ≤ (n : Int)) && decide ((n : Int) ≤ 6)) = (decide (1 ≤ n) && decide (n ≤ 6)) := by
  have h1 : decide ((1 : Int) ≤ (n : Int)) = decide (1 ≤ n) := by congr 1; exact propext ⟨fun h => by omega, fun h => by omega⟩
  have h2 : decide ((n : Int) ≤ 6) = decide (n ≤ 6) := by congr 1; exact propext ⟨fun h => by omega, fun h => by omega⟩
  rw [h1, h2]
theorem pout_no {fs : List Fv} (h : pok fs = false) : pout fs = ⟨#[]⟩ := by unfold pout; rw [h]; rfl
theorem pout_yes {fs : List Fv} (h : pok fs = true) : pout fs = ⟨(pcat fs).toArray⟩ := by unfold pout; rw [h]; rfl
theorem bytes_add {s : ByteArray} {l m : List UInt8} (h : s.data.toList = l) : (s ++ (⟨m.toArray⟩ : ByteArray)).data.toList = l ++ m := by
  rw [← h]; simp
def FsPost (w : World) (x : ByteArray) (ok : Bool) (e : Ending) (w' : World) : Prop := e = .returned (.tuple #[.string x, .bool ok]) ∧ Below w.heap.size w w'
/-! ### the reference -/
set_option maxHeartbeats 1600000 in
theorem sfs_any (B : Nat) (A : Option Addr) (fs : List Fv) (cap : Nat) (w : World) (h : FsIn w B A fs) (hBw : B ≤ w.heap.size) (hm : fs.length ≤ 2000000) (hmr : ∀ v ∈ fs, v.rs.length ≤ 2000000 ∧ v.s.size ≤ 1000000000) (x : ByteArray) (ok : Bool) (hx : pout fs = x) (ho : pok fs = ok) :
    Calls Try.prog 16 #[.slice A fs.length cap] w (FsPost w x ok) := by
  have H := Lib.hid h
  have MR := Lib.hid hmr
  have X := Lib.hid hx
  have K := Lib.hid ho
  clear h hmr hx ho
  go_enter Try.func16, Try.ntmps16
  go_wp2_with fail
  go_loopw [4, 5] (fun o i wr => ∃ (j : Nat) (t : ByteArray), j ≤ fs.length ∧ i = .int .i64 j ∧ o = .string t ∧ t.size ≤ 172 * j ∧ Hid (pall fs = pall (fs.drop j)) ∧ Hid (t.data.toList = pcat (fs.take j)) ∧ Hid (Below w.heap.size w wr)) (fun _ i _ => fs.length - (intOf i).toNat)
  case atStart => exact ⟨0, ⟨#[]⟩, Nat.zero_le _, rfl, rfl, by decide, rfl, rfl, Below.refl _ _⟩
  case round =>
    obtain ⟨j, t, hj, rfl, rfl, htl, hv, ht, hB⟩ := hrel
    by_cases hlt : j < fs.length
    · obtain ⟨b, off, rfl, hbB, hcc⟩ := (H.out.below (hB.out.mono hBw)) (by omega)
      obtain ⟨Ai, ci, hc6, hI⟩ := hcc j hlt
      have S := Lib.hid (pall_drop_succ hlt)
      have U := Lib.hid (pcat_take_succ hlt)
      obtain ⟨m1, m2⟩ := MR.out _ (getD_memF hlt)
      clear hcc
      generalize fs.getD j fv0 = v at hc6 hI S U m1 m2
      obtain ⟨vk, va, vb, vc, vs, vr⟩ := v
      obtain ⟨c0, c1, c2, c3, c4, c5⟩ := six_cells hc6
      simp only at c0 c1 c2 c3 c4 c5 hI m1 m2
      have II := Lib.hid hI
      have hbs : b < wr.heap.size := by have := hB.out.size; omega
      have hBr : B ≤ wr.heap.size := Nat.le_trans hBw hB.out.size
      clear hc6 hI
      obtain ⟨q, HQ⟩ : ∃ q, Hid (fvalid ⟨vk, va, vb, vc, vs.data.toList, vr⟩ = q) := ⟨_, rfl⟩
      go_wp2_with fail
      refine (sfv_any vk va vb vc vs B vr Ai ci wr II.out hBr m1 (by omega) q HQ.out).mono ?_
      rintro e w2 ⟨rfl, hB2⟩
      have e0 := (hB2.cell (p := ⟨b, off + j * 6, none⟩) hbs).trans c0
      have e1 := (hB2.cell (p := ⟨b, off + j * 6 + 1, none⟩) hbs).trans c1
      have e2 := (hB2.cell (p := ⟨b, off + j * 6 + 2, none⟩) hbs).trans c2
      have e3 := (hB2.cell (p := ⟨b, off + j * 6 + 3, none⟩) hbs).trans c3
      have e4 := (hB2.cell (p := ⟨b, off + j * 6 + 4, none⟩) hbs).trans c4
      have e5 := (hB2.cell (p := ⟨b, off + j * 6 + 5, none⟩) hbs).trans c5
      have I2 := Lib.hid (II.out.below (hB2.mono hBr))
      have B2 := Lib.hid (drew2 hB.out hB2)
      have hB2s : B ≤ w2.heap.size := Nat.le_trans hBr hB2.size
      clear hB2 c0 c1 c2 c3 c4 c5 II
      cases q with
      | false =>
        have P0 : pok fs = false := by
          unfold pok
          have : pall fs = false := by rw [hv.out, S.out]; show (fvalid ⟨vk, va, vb, vc, vs.data.toList, vr⟩ && _) = false; rw [HQ.out]; rfl
          rw [this, Bool.and_false]
        have D := Lib.hid (show FsPost w x ok (.returned (.tuple #[.string ⟨#[]⟩, .bool false])) w2 from ⟨by rw [← X.out, ← K.out, P0, pout_no P0], B2.out⟩)
        clear P0
        go_wp2
        go_ret2
        exact D.out
      | true =>
        obtain ⟨y, hy⟩ : ∃ y, fraw ⟨vk, va, vb, vc, vs.data.toList, vr⟩ = y := ⟨_, rfl⟩
        have yl : y.length ≤ 172 := by rw [← hy]; exact fraw_len HQ.out
        have ys := size_of_list ⟨y.toArray⟩ y rfl
        have S2 := Lib.hid (show pall fs = pall (fs.drop (j + 1)) by rw [hv.out, S.out]; show (fvalid ⟨vk, va, vb, vc, vs.data.toList, vr⟩ && _) = _; rw [HQ.out]; rfl)
        have T2 := Lib.hid (show (t ++ ⟨y.toArray⟩).data.toList = pcat (fs.take (j + 1)) by rw [U.out, bytes_add ht.out]; show _ ++ y = _ ++ fraw ⟨vk, va, vb, vc, vs.data.toList, vr⟩; rw [hy])
        have TL : (t ++ ⟨y.toArray⟩).size ≤ 172 * (j + 1) := by rw [ByteArray.size_append, ys]; omega
        have cat : ∀ W, (Op.stringOp .add t ⟨y.toArray⟩).run Try.prog W = .ok (.string (t ++ ⟨y.toArray⟩)) W := fun W => run_string_add_sum W _ _ (by rw [ys]; omega)
        have HY := Lib.hid hy
        clear hy ys yl
        go_wp2_with fail
        refine (senc_any vk va vb vc vs B vr Ai ci w2 I2.out hB2s HQ.out y HY.out).mono ?_
        rintro e w3 ⟨rfl, hB3⟩
        have B3 := Lib.hid (drew2 B2.out hB3)
        clear hB3 e0 e1 e2 e3 e4 e5
        go_wp2_with fail
        go_roundw
        case rel => exact ⟨j + 1, _, by omega, by go_num, rfl, TL, S2.out, T2.out, B3.out⟩
        case measure => simp [intOf]; omega
    · have hj' : j = fs.length := by omega
      have PA := Lib.hid (show pall fs = true by rw [hv.out, hj', List.drop_length]; rfl)
      have TT := Lib.hid (show t = ⟨(pcat fs).toArray⟩ from bytes_ext (by have := ht.out; rw [hj', List.take_of_length_le (Nat.le_refl _)] at this; exact this))
      obtain ⟨r, hr⟩ : ∃ r, (decide (1 ≤ fs.length) && decide (fs.length ≤ 6)) = r := ⟨_, rfl⟩
      have PK := Lib.hid (show pok fs = r by unfold pok; rw [hr, PA.out, Bool.and_true])
      have IC := Lib.hid (fun W => (in_any (fs.length : Int) 1 6 W).mono (R' := fun e w' => e = .returned (.bool r) ∧ W = w') fun _ _ ⟨he, hw⟩ => ⟨by rw [he]; exact ret_bool ((pok_int _).trans hr), hw⟩)
      clear hj' hr
      go_wp2_with fail
      refine (IC.out _).mono ?_
      rintro e w3 ⟨rfl, rfl⟩
      cases r with
      | false =>
        have D := Lib.hid (show FsPost w x ok (.returned (.tuple #[.string ⟨#[]⟩, .bool false])) wr from ⟨by rw [← X.out, ← K.out, PK.out, pout_no PK.out], hB.out⟩)
        go_wp2
        go_ret2
        exact D.out
      | true =>
        have D := Lib.hid (show FsPost w x ok (.returned (.tuple #[.string t, .bool true])) wr from ⟨by rw [← X.out, ← K.out, PK.out, pout_yes PK.out, TT.out], hB.out⟩)
        go_wp2
        go_ret2
        exact D.out
/-! ### the program -/
set_option maxHeartbeats 1600000 in
theorem ifs_any (B : Nat) (A : Option Addr) (fs : List Fv) (cap : Nat) (w : World) (h : FsIn w B A fs) (hBw : B ≤ w.heap.size) (hm : fs.length ≤ 2000000) (hmr : ∀ v ∈ fs, v.rs.length ≤ 2000000 ∧ v.s.size ≤ 1000000000) (x : ByteArray) (ok : Bool) (hx : pout fs = x) (ho : pok fs = ok) :
    Calls Try.prog 18 #[.slice A fs.length cap] w (FsPost w x ok) := by
  have H := Lib.hid h
  have MR := Lib.hid hmr
  have X := Lib.hid hx
  have K := Lib.hid ho
  obtain ⟨r, hr⟩ : ∃ r, (decide (1 ≤ fs.length) && decide (fs.length ≤ 6)) = r := ⟨_, rfl⟩
  have PK := Lib.hid (show pok fs = (r && pall fs) by unfold pok; rw [hr])
  have IC := Lib.hid (fun W => (win_any (fs.length : Int) 1 6 W).mono (R' := fun e w' => e = .returned (.bool r) ∧ W = w') fun _ _ ⟨he, hw⟩ => ⟨by rw [he]; exact ret_bool ((pok_int _).trans hr), hw⟩)
  clear h hmr hx ho
  go_enter Try.func18, Try.ntmps18
  go_wp2_with fail
  refine (IC.out _).mono ?_
  rintro e w3 ⟨rfl, rfl⟩
  cases r with
  | false =>
    have D := Lib.hid (show FsPost w x ok (.returned (.tuple #[.string ⟨#[]⟩, .bool false])) w from ⟨by have P0 : pok fs = false := PK.out; rw [← X.out, ← K.out, P0, pout_no P0], Below.refl _ _⟩)
    clear hr
    go_wp2
    go_ret2
    exact D.out
  | true =>
    have hl6 : fs.length ≤ 6 := by simp only [Bool.and_eq_true, decide_eq_true_eq] at hr; exact hr.2
    have hl1 : 1 ≤ fs.length := by simp only [Bool.and_eq_true, decide_eq_true_eq] at hr; exact hr.1
    clear hr
    go_wp2_with fail
    go_loopw [4, 13] (fun o i wr => ∃ (j : Nat) (t : ByteArray), j ≤ fs.length ∧ i = .int .i64 j ∧ o = .string t ∧ t.size ≤ 172 * j ∧ Hid (pall fs = pall (fs.drop j)) ∧ Hid (t.data.toList = pcat (fs.take j)) ∧ Hid (Below w.heap.size w wr)) (fun _ i _ => fs.length - (intOf i).toNat)
    case atStart => exact ⟨0, ⟨#[]⟩, Nat.zero_le _, rfl, rfl, by decide, rfl, rfl, Below.refl _ _⟩
    case round =>
      obtain ⟨j, t, hj, rfl, rfl, htl, hv, ht, hB⟩ := hrel
      by_cases hlt : j < fs.length
      · obtain ⟨b, off, rfl, hbB, hcc⟩ := (H.out.below (hB.out.mono hBw)) (by omega)
        obtain ⟨Ai, ci, hc6, hI⟩ := hcc j hlt
        have S := Lib.hid (pall_drop_succ hlt)
        have U := Lib.hid (pcat_take_succ hlt)
        obtain ⟨m1, m2⟩ := MR.out _ (getD_memF hlt)
        clear hcc
        generalize fs.getD j fv0 = v at hc6 hI S U m1 m2
        obtain ⟨vk, va, vb, vc, vs, vr⟩ := v
        obtain ⟨c0, c1, c2, c3, c4, c5⟩ := six_cells hc6
        simp only at c0 c1 c2 c3 c4 c5 hI m1 m2
        have hBr : B ≤ wr.heap.size := Nat.le_trans hBw hB.out.size
        have BA := Lib.hid ((Below.refl wr.heap.size wr).alloc (Nat.le_refl _) (.cells #[.int .i64 vk, .int .i64 va, .int .i64 vb, .int .i64 vc, .string vs, .slice Ai vr.length ci] 25))
        have II := Lib.hid (hI.below (BA.out.mono hBr))
        have XB := Lib.hid (FBlk.new wr vk va vb vc vs Ai vr.length ci)
        have hza : wr.heap.size < (wr.alloc (.cells #[.int .i64 vk, .int .i64 va, .int .i64 vb, .int .i64 vc, .string vs, .slice Ai vr.length ci] 25)).heap.size := by simp
        clear hc6 hI
        obtain ⟨q, HQ⟩ : ∃ q, Hid (fvalid ⟨vk, va, vb, vc, vs.data.toList, vr⟩ = q) := ⟨_, rfl⟩
        go_wp2_with fail
        refine (ifv_any vk va vb vc vs B vr Ai ci _ II.out (Nat.le_trans hBr BA.out.size) m1 q HQ.out).mono ?_
        rintro e w2 ⟨rfl, hB2⟩
        have X2 := Lib.hid (XB.out.below hB2 hza)
        obtain ⟨e0, e1, e2, e3, e4, e5⟩ := X2.out.cells
        have I2 := Lib.hid (II.out.below (hB2.mono (Nat.le_trans hBr BA.out.size)))
        have B2 := Lib.hid (drew2 (drew2 hB.out BA.out) hB2)
        have hB2s : B ≤ w2.heap.size := Nat.le_trans (Nat.le_trans hBr BA.out.size) hB2.size
        clear hB2 c0 c1 c2 c3 c4 c5 II XB BA
        cases q with
        | false =>
          have P0 : pok fs = false := by
            have : pall fs = false := by rw [hv.out, S.out]; show (fvalid ⟨vk, va, vb, vc, vs.data.toList, vr⟩ && _) = false; rw [HQ.out]; rfl
            rw [PK.out, this]; rfl
          have D := Lib.hid (show FsPost w x ok (.returned (.tuple #[.string ⟨#[]⟩, .bool false])) w2 from ⟨by rw [← X.out, ← K.out, P0, pout_no P0], B2.out⟩)
          clear P0
          go_wp2
          go_ret2
          exact D.out
        | true =>
          obtain ⟨y, hy⟩ : ∃ y, fraw ⟨vk, va, vb, vc, vs.data.toList, vr⟩ = y := ⟨_, rfl⟩
          have yl : y.length ≤ 172 := by rw [← hy]; exact fraw_len HQ.out
          have ys := size_of_list ⟨y.toArray⟩ y rfl
          have S2 := Lib.hid (show pall fs = pall (fs.drop (j + 1)) by rw [hv.out, S.out]; show (fvalid ⟨vk, va, vb, vc, vs.data.toList, vr⟩ && _) = _; rw [HQ.out]; rfl)
          have T2 := Lib.hid (show (t ++ ⟨y.toArray⟩).data.toList = pcat (fs.take (j + 1)) by rw [U.out, bytes_add ht.out]; show _ ++ y = _ ++ fraw ⟨vk, va, vb, vc, vs.data.toList, vr⟩; rw [hy])
          have TL : (t ++ ⟨y.toArray⟩).size ≤ 172 * (j + 1) := by rw [ByteArray.size_append, ys]; omega
          have cat : ∀ W, (Op.stringOp .add t ⟨y.toArray⟩).run Try.prog W = .ok (.string (t ++ ⟨y.toArray⟩)) W := fun W => run_string_add_sum W _ _ (by rw [ys]; omega)
          have HY := Lib.hid hy
          clear hy ys yl
          go_wp2_with fail
          refine (ifenc_yes vk va vb vc vs B vr Ai ci w2 I2.out hB2s m1 (by omega) HQ.out y HY.out).mono ?_
          rintro e w3 ⟨rfl, hB3⟩
          have B3 := Lib.hid (drew2 B2.out hB3)
          clear hB3 e0 e1 e2 e3 e4 e5
          go_wp2_with fail
          go_roundw
          case rel => exact ⟨j + 1, _, by omega, by go_num, rfl, TL, S2.out, T2.out, B3.out⟩
          case measure => simp [intOf]; omega
      · have hj' : j = fs.length := by omega
        have PA : pok fs = true := by
          have : pall fs = true := by rw [hv.out, hj', List.drop_length]; rfl
          rw [PK.out, this]; rfl
        have TT : t = ⟨(pcat fs).toArray⟩ := bytes_ext (by have := ht.out; rw [hj', List.take_of_length_le (Nat.le_refl _)] at this; exact this)
        have D := Lib.hid (show FsPost w x ok (.returned (.tuple #[.string t, .bool true])) wr from ⟨by rw [← X.out, ← K.out, PA, pout_yes PA, TT], hB.out⟩)
        clear hj' PA TT
        go_wp2_with fail
        go_ret2
        exact D.out
end Go.Proofs.Ytibnjbbiagjnjaa
