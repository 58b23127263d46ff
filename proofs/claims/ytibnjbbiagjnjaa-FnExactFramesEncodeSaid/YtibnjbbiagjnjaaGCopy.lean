/- Contracts of the laws' helpers on slices of frames: their size, copied, equal. No condition but that the slices read as the lists, and bounds on lengths. -/
import Derived.Test.YtibnjbbiagjnjaaGFs
import Derived.Test.YtibnjbbiagjnjaaFCopy
import Derived.Deep.RegionHeld3
import Derived.Laws.MakeOwn
namespace Go.Proofs.Ytibnjbbiagjnjaa
open Go.RowKit
set_option linter.unusedVariables false
/-! ### size -/
theorem szF_fits (k a b c : Int) (s : ByteArray) (A : Option Addr) (n cap : Nat) (left : Int) (w : World) (h0 : left ≤ 1048576) (h : (s.size : Int) + n ≤ left) :
    Calls Try.prog 22 #[.agg #[.int .i64 k, .int .i64 a, .int .i64 b, .int .i64 c, .string s, .slice A n cap], .int .i64 left] w fun e w' => e = .returned (.int .i64 (left - s.size - n)) ∧ Below w.heap.size w w' := by
  have HB := Lib.hid ((Below.refl w.heap.size w).alloc (Nat.le_refl _))
  go_enter Try.func22, Try.ntmps22
  go_wp2_with fail
  refine (size_fits _ _ _ _ _ (by omega) (by omega)).mono ?_
  rintro e w1 ⟨rfl, rfl⟩
  go_wp2
  go_ret
  exact ⟨rfl, HB.out _⟩
theorem szF_over (k a b c : Int) (s : ByteArray) (A : Option Addr) (n cap : Nat) (left : Int) (w : World) (hn : n ≤ 9223372036854775807) (hs : s.size ≤ 9223372036854775807) (h0 : 0 ≤ left) (h1 : left ≤ 1048576) (h : left < (s.size : Int) + n) :
    Calls Try.prog 22 #[.agg #[.int .i64 k, .int .i64 a, .int .i64 b, .int .i64 c, .string s, .slice A n cap], .int .i64 left] w fun e w' => e = .returned (.int .i64 (-1)) ∧ Below w.heap.size w w' := by
  have HB := Lib.hid ((Below.refl w.heap.size w).alloc (Nat.le_refl _))
  by_cases h2 : left < (s.size : Int)
  · go_enter Try.func22, Try.ntmps22
    go_wp2
    go_ret
    exact ⟨rfl, HB.out _⟩
  · go_enter Try.func22, Try.ntmps22
    go_wp2_with fail
    refine (size_over _ _ _ _ _ hn (by omega) (by omega) (by omega)).mono ?_
    rintro e w1 ⟨rfl, rfl⟩
    go_wp2
    go_ret
    exact ⟨rfl, HB.out _⟩
/-- How much the frames hold. -/
def ftotal : List Fv → Nat
  | [] => 0
  | v :: fs => v.s.size + v.rs.length + ftotal fs
theorem ftotal_drop_succ {fs : List Fv} {k : Nat} (h : k < fs.length) : ftotal (fs.drop k) = (fs.getD k fv0).s.size + (fs.getD k fv0).rs.length + ftotal (fs.drop (k + 1)) := by
  rw [List.drop_eq_getElem_cons h, List.getD_eq_getElem?_getD, List.getElem?_eq_getElem h]; rfl
theorem in_ftotal {fs : List Fv} : ∀ v ∈ fs, v.s.size + v.rs.length ≤ ftotal fs := by
  induction fs with
  | nil => intro v hv; cases hv
  | cons x xs ih =>
    intro v hv
    unfold ftotal
    rcases List.mem_cons.1 hv with rfl | hv
    · omega
    · have := ih v hv; omega
set_option maxHeartbeats 1600000 in
theorem szFs_any (B : Nat) (A : Option Addr) (fs : List Fv) (c : Nat) (w : World) (h : FsIn w B A fs) (hBw : B ≤ w.heap.size) (hm : fs.length ≤ 9223372036854775807) (hmi : ∀ v ∈ fs, v.rs.length ≤ 9223372036854775807 ∧ v.s.size ≤ 9223372036854775807) :
    Calls Try.prog 15 #[.slice A fs.length c, .int .i64 1048576] w fun e w' => e = .returned (.int .i64 (if fs.length + ftotal fs ≤ 1048576 then 1048576 - (fs.length : Int) - (ftotal fs : Int) else -1)) ∧ Below w.heap.size w w' := by
  have H := Lib.hid h
  have MI := Lib.hid hmi
  clear h hmi
  obtain ⟨z, hz⟩ : ∃ z, ftotal fs = z := ⟨_, rfl⟩
  rw [hz]
  obtain ⟨res, hres⟩ : ∃ res : Int, (if fs.length + z ≤ 1048576 then 1048576 - (fs.length : Int) - (z : Int) else -1) = res := ⟨_, rfl⟩
  rw [hres]
  have Z := Lib.hid hz
  have RES := Lib.hid hres
  clear hz hres
  by_cases hl : 1048576 < fs.length
  · have E := Lib.hid (show (-1 : Int) = res by rw [← RES.out, if_neg (by omega)])
    go_enter Try.func15, Try.ntmps15
    go_wp2
    go_ret
    exact ⟨by rw [← E.out]; rfl, Below.refl _ _⟩
  · go_enter Try.func15, Try.ntmps15
    go_wp2_with fail
    go_loopw [1, 5] (fun q i wr => ∃ (k : Nat) (left : Int), k ≤ fs.length ∧ i = .int .i64 k ∧ q = .int .i64 left ∧ 0 ≤ left ∧ left ≤ 1048576 ∧ Hid (left = 1048576 - (fs.length : Int) - (z : Int) + (ftotal (fs.drop k) : Int)) ∧ Hid (Below w.heap.size w wr)) (fun _ i _ => fs.length - (intOf i).toNat)
    case atStart => exact ⟨0, 1048576 - fs.length, Nat.zero_le _, rfl, rfl, by omega, by omega, by have := Z.out; rw [List.drop_zero, this]; exact Lib.hid (by omega), Below.refl _ _⟩
    case round =>
      obtain ⟨k, left, hk, rfl, rfl, hl0, hl1, hleft, hB⟩ := hrel
      by_cases hlt : k < fs.length
      · obtain ⟨b, off, rfl, hbB, hcc⟩ := (H.out.below (hB.out.mono hBw)) (by omega)
        obtain ⟨Ai, ci, hc6, _⟩ := hcc k hlt
        have S := Lib.hid (ftotal_drop_succ hlt)
        obtain ⟨m1, m2⟩ := MI.out _ (getD_memF hlt)
        clear hcc
        generalize fs.getD k fv0 = v at hc6 S m1 m2
        obtain ⟨vk, va, vb, vc, vs, vr⟩ := v
        obtain ⟨c0, c1, c2, c3, c4, c5⟩ := six_cells hc6
        simp only at c0 c1 c2 c3 c4 c5 m1 m2
        clear hc6
        by_cases hf : (vs.size : Int) + vr.length ≤ left
        · have E := Lib.hid (show left - vs.size - vr.length = 1048576 - (fs.length : Int) - (z : Int) + (ftotal (fs.drop (k + 1)) : Int) by have h1 := hleft.out; have h2 := S.out; simp only at h2; rw [h2] at h1; omega)
          go_wp2_with fail
          refine (szF_fits vk va vb vc vs Ai vr.length ci left wr hl1 hf).mono ?_
          rintro e w2 ⟨rfl, hB2⟩
          have B2 := Lib.hid (drew2 hB.out hB2)
          clear hB2
          go_wp2_with fail
          go_roundw
          case rel => exact ⟨k + 1, left - vs.size - vr.length, by omega, by go_num, rfl, by omega, by omega, E.out, B2.out⟩
          case measure => simp [intOf]; omega
        · have E := Lib.hid (show (-1 : Int) = res by
            have h1 := hleft.out; have h2 := S.out; simp only at h2; rw [h2] at h1
            rw [← RES.out, if_neg (by omega)])
          go_wp2_with fail
          refine (szF_over vk va vb vc vs Ai vr.length ci left wr m1 m2 hl0 hl1 (by omega)).mono ?_
          rintro e w2 ⟨rfl, hB2⟩
          have B2 := Lib.hid (drew2 hB.out hB2)
          clear hB2
          go_wp2
          go_ret
          exact ⟨by rw [← E.out]; rfl, B2.out⟩
      · have hk' : k = fs.length := by omega
        have E := Lib.hid (show left = res by
          have h1 := hleft.out
          rw [hk', List.drop_length] at h1
          have h2 : (ftotal [] : Int) = 0 := rfl
          rw [h2] at h1
          rw [← RES.out, if_pos (by omega)]; omega)
        clear hk'
        go_wp2_with fail
        go_ret
        exact ⟨by rw [← E.out]; rfl, hB.out⟩
/-! ### copied -/
theorem frame_info : (Try.prog.info? 25).map (fun i => (i.zero, i.size, i.bytes)) = some (some (.agg #[.int .i64 0, .int .i64 0, .int .i64 0, .int .i64 0, .string ⟨#[]⟩, .slice none 0 0]), 6, 72) := by kernel_rfl
/-- The cells that 'make([]impl.Frame, n)' lays. -/
def fzrow (n : Nat) : Array Value := madeCells (Value.agg #[.int .i64 0, .int .i64 0, .int .i64 0, .int .i64 0, .string ⟨#[]⟩, .slice none 0 0]).cells (n * 6)
theorem make_fs (n : Nat) (hn : n ≤ 1000000000) (W : World) : (Instr.makeSlice 34 (.int .i64 (n : Int)) (.int .i64 (n : Int))).run Try.prog W = .ok (.slice (some ⟨W.heap.size, 0, none⟩) n n) (W.alloc (.cells (fzrow n) 25)) := by
  obtain ⟨i, hi, hz, h1, h2⟩ := info_parts frame_info
  have hb : (i.bytes : Int) * (n : Int) ≤ 281474976710656 := by rw [h2]; omega
  have hr := run_make (P := Try.prog) W 34 25 i (.agg #[.int .i64 0, .int .i64 0, .int .i64 0, .int .i64 0, .string ⟨#[]⟩, .slice none 0 0]) Try.underlying34 hi hz .i64 .i64 n n (by omega) (by omega) hb (by omega)
  simp only [Int.toNat_natCast] at hr
  rw [hr, h1]
  rfl
theorem set6_at (V : List Value) (o : Nat) (c0 c1 c2 c3 c4 c5 : Value) (h : o + 6 ≤ V.length) (j : Nat) (u : Value) (hj : [c0, c1, c2, c3, c4, c5][j]? = some u) : ((((((V.set (o) c0).set (o + 1) c1).set (o + 2) c2).set (o + 3) c3).set (o + 4) c4).set (o + 5) c5)[o + j]? = some u := by
  match j, hj with
  | 0, hj => simp only [List.getElem?_cons_zero, Option.some.injEq] at hj; subst hj; show ((((((V.set (o) c0).set (o + 1) c1).set (o + 2) c2).set (o + 3) c3).set (o + 4) c4).set (o + 5) c5)[o]? = _; rw [List.getElem?_set_ne (by omega), List.getElem?_set_ne (by omega), List.getElem?_set_ne (by omega), List.getElem?_set_ne (by omega), List.getElem?_set_ne (by omega), List.getElem?_set_self (by omega)]
  | 1, hj => simp only [List.getElem?_cons_zero, List.getElem?_cons_succ, Option.some.injEq] at hj; subst hj; rw [List.getElem?_set_ne (by omega), List.getElem?_set_ne (by omega), List.getElem?_set_ne (by omega), List.getElem?_set_ne (by omega), List.getElem?_set_self (by simp only [List.length_set]; omega)]
  | 2, hj => simp only [List.getElem?_cons_zero, List.getElem?_cons_succ, Option.some.injEq] at hj; subst hj; rw [List.getElem?_set_ne (by omega), List.getElem?_set_ne (by omega), List.getElem?_set_ne (by omega), List.getElem?_set_self (by simp only [List.length_set]; omega)]
  | 3, hj => simp only [List.getElem?_cons_zero, List.getElem?_cons_succ, Option.some.injEq] at hj; subst hj; rw [List.getElem?_set_ne (by omega), List.getElem?_set_ne (by omega), List.getElem?_set_self (by simp only [List.length_set]; omega)]
  | 4, hj => simp only [List.getElem?_cons_zero, List.getElem?_cons_succ, Option.some.injEq] at hj; subst hj; rw [List.getElem?_set_ne (by omega), List.getElem?_set_self (by simp only [List.length_set]; omega)]
  | 5, hj => simp only [List.getElem?_cons_zero, List.getElem?_cons_succ, Option.some.injEq] at hj; subst hj; rw [List.getElem?_set_self (by simp only [List.length_set]; omega)]
  | j + 6, hj => simp at hj
theorem set6_other (V : List Value) (o : Nat) (c0 c1 c2 c3 c4 c5 : Value) (m : Nat) (h : m < o) : ((((((V.set (o) c0).set (o + 1) c1).set (o + 2) c2).set (o + 3) c3).set (o + 4) c4).set (o + 5) c5)[m]? = V[m]? := by
  rw [List.getElem?_set_ne (by omega), List.getElem?_set_ne (by omega), List.getElem?_set_ne (by omega), List.getElem?_set_ne (by omega), List.getElem?_set_ne (by omega), List.getElem?_set_ne (by omega)]
/-- The block g holds the row V of n frames' cells; the first k are those of fs, their ranges owned from B on. -/
def FRow (w : World) (g n B k : Nat) (fs : List Fv) : Prop :=
  ∃ V : List Value, w.ownsRow g 25 6 (.slice (some ⟨g, 0, none⟩) n n) n V ∧
    ∀ i, i < k → ∃ Ai ci, (∀ j u, (vcells (fs.getD i fv0) Ai ci)[j]? = some u → V[i * 6 + j]? = some u) ∧ OwnRs w B Ai ci (fs.getD i fv0).rs
theorem FRow.zero (w : World) (n B : Nat) (fs : List Fv) (hn : n ≤ 1000000000) : FRow (w.alloc (.cells (fzrow n) 25)) w.heap.size n B 0 fs :=
  ⟨_, World.ownsRow_lit (base := w.heap.size) (e := 25) (size := 6) w (fzrow n) n (Nat.le_refl _) (by unfold maxLen; omega) (by unfold fzrow; simp [size_madeCells]), fun i hi => absurd hi (by omega)⟩
theorem FRow.below {w w' : World} {g n B k : Nat} {fs : List Fv} (h : FRow w g n B k fs) (hb : Below w.heap.size w w') : FRow w' g n B k fs := by
  obtain ⟨V, hV, hc⟩ := h
  refine ⟨V, World.ownsRow.kept hV ⟨hb.os, hb.tape, hb.output, hb.size, fun k hk _ => hb.block k hk⟩ (row := none) (.inr (by simp [Value.ownBlock])), fun i hi => ?_⟩
  obtain ⟨Ai, ci, c1, c2⟩ := hc i hi
  exact ⟨Ai, ci, c1, c2.below hb⟩
/-- What it tells of a place. -/
theorem FRow.at {w : World} {g n B k : Nat} {fs : List Fv} (h : FRow w g n B k fs) (j : Nat) (hj : j < n * 6) : (∃ u, w.cell? ⟨g, j, none⟩ = some u) ∧ w.frozen? ⟨g, j, none⟩ = false := by
  obtain ⟨V, hV, _⟩ := h
  refine ⟨⟨V[j]'(by rw [hV.1]; exact hj), ?_⟩, World.ownsRow.frozenAt hV j⟩
  rw [World.ownsRow.cellAt hV j hj, List.getElem?_eq_getElem]
theorem FRow.stored {w : World} {g n B k : Nat} {fs : List Fv} (h : FRow w g n B k fs) (hg : g < B) (hk : k < n) (v : Fv) (A : Option Addr) (c : Nat) (hx : fs.getD k fv0 = v) (ho : OwnRs w B A c v.rs) :
    FRow ((((((w.setCell ⟨g, k * 6, none⟩ (.int .i64 v.k)).setCell ⟨g, k * 6 + 1, none⟩ (.int .i64 v.a)).setCell ⟨g, k * 6 + 2, none⟩ (.int .i64 v.b)).setCell ⟨g, k * 6 + 3, none⟩ (.int .i64 v.c)).setCell ⟨g, k * 6 + 4, none⟩ (.string v.s)).setCell ⟨g, k * 6 + 5, none⟩ (.slice A v.rs.length c)) g n B (k + 1) fs := by
  obtain ⟨V, hV, hc⟩ := h
  have hl : V.length = n * 6 := hV.1
  have h0 := (World.ownsRow.stored hV (k * 6) (.int .i64 v.k)).1
  have h1 := (World.ownsRow.stored h0 (k * 6 + 1) (.int .i64 v.a)).1
  have h2 := (World.ownsRow.stored h1 (k * 6 + 2) (.int .i64 v.b)).1
  have h3 := (World.ownsRow.stored h2 (k * 6 + 3) (.int .i64 v.c)).1
  have h4 := (World.ownsRow.stored h3 (k * 6 + 4) (.string v.s)).1
  have h5 := (World.ownsRow.stored h4 (k * 6 + 5) (.slice A v.rs.length c)).1
  have far : ∀ {Aj : Option Addr} {cj : Nat} {rs : List Rg}, OwnRs w B Aj cj rs → OwnRs ((((((w.setCell ⟨g, k * 6, none⟩ (.int .i64 v.k)).setCell ⟨g, k * 6 + 1, none⟩ (.int .i64 v.a)).setCell ⟨g, k * 6 + 2, none⟩ (.int .i64 v.b)).setCell ⟨g, k * 6 + 3, none⟩ (.int .i64 v.c)).setCell ⟨g, k * 6 + 4, none⟩ (.string v.s)).setCell ⟨g, k * 6 + 5, none⟩ (.slice A v.rs.length c)) B Aj cj rs := fun {Aj cj rs} h =>
    (((((h.far g (k * 6) hg _).far g (k * 6 + 1) hg _).far g (k * 6 + 2) hg _).far g (k * 6 + 3) hg _).far g (k * 6 + 4) hg _).far g (k * 6 + 5) hg _
  refine ⟨_, h5, fun i hi => ?_⟩
  by_cases hik : i < k
  · obtain ⟨Ai, ci, c1, c2⟩ := hc i hik
    refine ⟨Ai, ci, fun j u hj => ?_, far c2⟩
    have hj6 : j < 6 := (List.getElem?_eq_some_iff.1 hj).1
    rw [set6_other V (k * 6) _ _ _ _ _ _ (i * 6 + j) (by omega)]
    exact c1 j u hj
  · obtain rfl : i = k := by omega
    rw [hx]
    exact ⟨A, c, fun j u hj => set6_at V (i * 6) _ _ _ _ _ _ (by omega) j u hj, far ho⟩
theorem FRow.all {w : World} {g B : Nat} {fs : List Fv} (h : FRow w g fs.length B fs.length fs) : FsIn w w.heap.size (some ⟨g, 0, none⟩) fs := fun h0 => by
  obtain ⟨V, hV, hc⟩ := h
  refine ⟨g, 0, rfl, (World.ownsRow.lt hV g rfl).2, fun i hi => ?_⟩
  obtain ⟨Ai, ci, c1, c2⟩ := hc i hi
  refine ⟨Ai, ci, fun j u hj => ?_, c2.in_⟩
  have hj6 : j < 6 := (List.getElem?_eq_some_iff.1 hj).1
  rw [Nat.zero_add, World.ownsRow.cellAt hV _ (by omega)]
  exact c1 j u hj
def FsCopy (w : World) (fs : List Fv) (e : Ending) (w' : World) : Prop :=
  ∃ A c, e = .returned (.slice A fs.length c) ∧ FsIn w' w'.heap.size A fs ∧ Below w.heap.size w w'
set_option maxHeartbeats 1600000 in
theorem toFs_any (B : Nat) (A : Option Addr) (fs : List Fv) (c : Nat) (w : World) (h : FsIn w B A fs) (hBw : B ≤ w.heap.size) (hm : fs.length ≤ 1000000000) (hmi : ∀ v ∈ fs, v.rs.length ≤ 1000000000) :
    Calls Try.prog 17 #[.slice A fs.length c] w (FsCopy w fs) := by
  have H := Lib.hid h
  have MI := Lib.hid hmi
  clear h hmi
  have hmk := fun W => make_fs fs.length hm W
  have O0 := Lib.hid (FRow.zero w fs.length (w.heap.size + 1) fs hm)
  generalize fzrow fs.length = zs at hmk O0
  go_enter Try.func17, Try.ntmps17
  go_wp2_with fail
  go_loopw [4] (fun i wr => ∃ k : Nat, k ≤ fs.length ∧ i = .int .i64 k ∧ Hid (FRow wr w.heap.size fs.length (w.heap.size + 1) k fs) ∧ Hid (Below w.heap.size w wr) ∧ Hid (w.heap.size + 1 ≤ wr.heap.size)) (fun i _ => fs.length - (intOf i).toNat)
  case atStart => exact ⟨0, Nat.zero_le _, rfl, O0.out, (Below.refl _ _).alloc (Nat.le_refl _) _, by simp [Hid]⟩
  case round =>
    obtain ⟨k, hk, rfl, hO, hB, hz⟩ := hrel
    by_cases hlt : k < fs.length
    · obtain ⟨b, off, rfl, hbB, hcc⟩ := (H.out.below (hB.out.mono hBw)) (by omega)
      obtain ⟨Ai, ci, hc6, hI⟩ := hcc k hlt
      have ML := MI.out _ (getD_memF hlt)
      have XE := Lib.hid (show ∃ x, fs.getD k fv0 = x from ⟨_, rfl⟩)
      clear hcc
      obtain ⟨v, hv⟩ := XE.out
      rw [hv] at hc6 hI ML
      obtain ⟨vk, va, vb, vc, vs, vr⟩ := v
      have X := Lib.hid hv
      clear hv XE
      obtain ⟨c0, c1, c2, c3, c4, c5⟩ := six_cells hc6
      simp only at c0 c1 c2 c3 c4 c5 hI ML
      have II := Lib.hid hI
      clear hI hc6
      have BZ := Lib.hid (show B ≤ wr.heap.size by have := hB.out.size; omega)
      go_wp2_with fail
      refine (toF_any vk va vb vc vs B vr Ai ci wr II.out BZ.out ML).mono ?_
      rintro e w2 ⟨A2, c2', rfl, hO2, hB2⟩
      have OB := Lib.hid (hO.out.below hB2)
      have OI := Lib.hid (hO2.mono hz.out)
      have BB := Lib.hid (drew2 hB.out hB2)
      have ZZ := Lib.hid (show w.heap.size + 1 ≤ w2.heap.size by have := hB2.size; have := hz.out; omega)
      clear hO2 hB2 c0 c1 c2 c3 c4 c5
      obtain ⟨⟨u0, g0⟩, f0⟩ := OB.out.at (k * 6) (by omega)
      obtain ⟨⟨u1, g1⟩, f1⟩ := OB.out.at (k * 6 + 1) (by omega)
      obtain ⟨⟨u2, g2⟩, f2⟩ := OB.out.at (k * 6 + 2) (by omega)
      obtain ⟨⟨u3, g3⟩, f3⟩ := OB.out.at (k * 6 + 3) (by omega)
      obtain ⟨⟨u4, g4⟩, f4⟩ := OB.out.at (k * 6 + 4) (by omega)
      obtain ⟨⟨u5, g5⟩, f5⟩ := OB.out.at (k * 6 + 5) (by omega)
      have OS := Lib.hid (OB.out.stored (by omega) hlt ⟨vk, va, vb, vc, vs, vr⟩ A2 c2' X.out OI.out)
      have BS := Lib.hid ((((((BB.out.setCell (p := ⟨w.heap.size, k * 6, none⟩) (Nat.le_refl _) (.int .i64 vk)).setCell (p := ⟨w.heap.size, k * 6 + 1, none⟩) (Nat.le_refl _) (.int .i64 va)).setCell (p := ⟨w.heap.size, k * 6 + 2, none⟩) (Nat.le_refl _) (.int .i64 vb)).setCell (p := ⟨w.heap.size, k * 6 + 3, none⟩) (Nat.le_refl _) (.int .i64 vc)).setCell (p := ⟨w.heap.size, k * 6 + 4, none⟩) (Nat.le_refl _) (.string vs)).setCell (p := ⟨w.heap.size, k * 6 + 5, none⟩) (Nat.le_refl _) (.slice A2 vr.length c2'))
      go_wp2_with fail
      go_roundw
      case rel => exact ⟨k + 1, by omega, by go_num, OS.out, BS.out, by have := ZZ.out; simpa [Hid, World.setCell] using this⟩
      case measure => simp [intOf]; omega
    · have hk' : k = fs.length := by omega
      have D := Lib.hid (show FsCopy w fs (.returned (.slice (some ⟨w.heap.size, 0, none⟩) fs.length fs.length)) wr by
        refine ⟨_, _, rfl, ?_, hB.out⟩
        have := hO.out
        rw [hk'] at this
        exact this.all)
      clear hk'
      go_wp2_with fail
      go_ret
      exact D.out
/-! ### equal -/
set_option maxHeartbeats 1600000 in
theorem eqFs_same (B B' : Nat) (A A' : Option Addr) (fs : List Fv) (c c' : Nat) (w : World) (h : FsIn w B A fs) (h' : FsIn w B' A' fs) (hBw : B ≤ w.heap.size) (hBw' : B' ≤ w.heap.size) (hm : fs.length ≤ 1000000000) (hmi : ∀ v ∈ fs, v.rs.length ≤ 1000000000000) :
    Calls Try.prog 19 #[.slice A fs.length c, .slice A' fs.length c'] w (BoolPost w true) := by
  have H := Lib.hid h
  have H' := Lib.hid h'
  have MI := Lib.hid hmi
  clear h h' hmi
  go_enter Try.func19, Try.ntmps19
  go_wp2_with fail
  go_loopw [5] (fun i wr => ∃ k : Nat, k ≤ fs.length ∧ i = .int .i64 k ∧ Hid (Below w.heap.size w wr)) (fun i _ => fs.length - (intOf i).toNat)
  case atStart => exact ⟨0, Nat.zero_le _, rfl, Below.refl _ _⟩
  case round =>
    obtain ⟨k, hk, rfl, hB⟩ := hrel
    by_cases hlt : k < fs.length
    · obtain ⟨b, off, rfl, hb, hc⟩ := (H.out.below (hB.out.mono hBw)) (by omega)
      obtain ⟨b', off', rfl, hb', hc'⟩ := (H'.out.below (hB.out.mono hBw')) (by omega)
      obtain ⟨A1, c1, hc6, hI⟩ := hc k hlt
      obtain ⟨A2, c2, hd6, hI'⟩ := hc' k hlt
      have ML := MI.out _ (getD_memF hlt)
      clear hc hc'
      generalize fs.getD k fv0 = v at hc6 hd6 hI hI' ML
      obtain ⟨vk, va, vb, vc, vs, vr⟩ := v
      obtain ⟨p0, p1, p2, p3, p4, p5⟩ := six_cells hc6
      obtain ⟨q0, q1, q2, q3, q4, q5⟩ := six_cells hd6
      simp only at p0 p1 p2 p3 p4 p5 q0 q1 q2 q3 q4 q5 hI hI' ML
      have j1 : (k : Int) < (fs.length : Int) := by omega
      have z1 : b < wr.heap.size := by have := hB.out.size; omega
      have z2 : b' < wr.heap.size := by have := hB.out.size; omega
      have zB : B ≤ wr.heap.size := by have := hB.out.size; omega
      have zB' : B' ≤ wr.heap.size := by have := hB.out.size; omega
      have hcall' := Lib.hid (fun W (hW : Below wr.heap.size wr W) => eqF_same vk va vb vc vs B B' vr A1 A2 c1 c2 W (hI.below (hW.mono zB)) (hI'.below (hW.mono zB')) (Nat.le_trans zB hW.size) (Nat.le_trans zB' hW.size) ML)
      clear hI hI' zB zB' hc6 hd6
      go_wp2_with fail
      go_region_held3 (fun w' => w'.cell? ⟨b, off + k * 6, none⟩ = some (.int .i64 vk) ∧ w'.cell? ⟨b, off + k * 6 + 1, none⟩ = some (.int .i64 va) ∧ w'.cell? ⟨b, off + k * 6 + 2, none⟩ = some (.int .i64 vb) ∧ w'.cell? ⟨b, off + k * 6 + 3, none⟩ = some (.int .i64 vc) ∧ w'.cell? ⟨b, off + k * 6 + 4, none⟩ = some (.string vs) ∧ w'.cell? ⟨b, off + k * 6 + 5, none⟩ = some (.slice A1 vr.length c1) ∧ w'.cell? ⟨b', off' + k * 6, none⟩ = some (.int .i64 vk) ∧ w'.cell? ⟨b', off' + k * 6 + 1, none⟩ = some (.int .i64 va) ∧ w'.cell? ⟨b', off' + k * 6 + 2, none⟩ = some (.int .i64 vb) ∧ w'.cell? ⟨b', off' + k * 6 + 3, none⟩ = some (.int .i64 vc) ∧ w'.cell? ⟨b', off' + k * 6 + 4, none⟩ = some (.string vs) ∧ w'.cell? ⟨b', off' + k * 6 + 5, none⟩ = some (.slice A2 vr.length c2)) (first | go_keep | (exact ⟨(hB3.cell (p := ⟨b, off + k * 6, none⟩) (by simpa using z1)).trans p0, (hB3.cell (p := ⟨b, off + k * 6 + 1, none⟩) (by simpa using z1)).trans p1, (hB3.cell (p := ⟨b, off + k * 6 + 2, none⟩) (by simpa using z1)).trans p2, (hB3.cell (p := ⟨b, off + k * 6 + 3, none⟩) (by simpa using z1)).trans p3, (hB3.cell (p := ⟨b, off + k * 6 + 4, none⟩) (by simpa using z1)).trans p4, (hB3.cell (p := ⟨b, off + k * 6 + 5, none⟩) (by simpa using z1)).trans p5, (hB3.cell (p := ⟨b', off' + k * 6, none⟩) (by simpa using z2)).trans q0, (hB3.cell (p := ⟨b', off' + k * 6 + 1, none⟩) (by simpa using z2)).trans q1, (hB3.cell (p := ⟨b', off' + k * 6 + 2, none⟩) (by simpa using z2)).trans q2, (hB3.cell (p := ⟨b', off' + k * 6 + 3, none⟩) (by simpa using z2)).trans q3, (hB3.cell (p := ⟨b', off' + k * 6 + 4, none⟩) (by simpa using z2)).trans q4, (hB3.cell (p := ⟨b', off' + k * 6 + 5, none⟩) (by simpa using z2)).trans q5⟩)) ((first | (go_at_call 25; refine (hcall'.out _ (by first | exact Below.refl _ _ | exact (Below.refl _ _).drew)).mono ?_; rintro e w3 ⟨rfl, hB3⟩)))
      have hBB := Lib.hid (drew2 hB.out.drew hB3)
      clear hB3
      go_wp2
      go_roundw
      case rel => exact ⟨k + 1, by omega, by go_num, hBB.out⟩
      case measure => simp [intOf]; omega
    · have hk' : k = fs.length := by omega
      clear hk'
      go_wp2_with fail
      go_ret
      exact ⟨rfl, hB.out⟩
end Go.Proofs.Ytibnjbbiagjnjaa
