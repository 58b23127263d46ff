/- Contracts of the laws' helpers on slices of boxes: copied, equal. No condition beyond those in each theorem. -/
import Derived.Test.YtamddfacmmjglaaDCopy
import Derived.Deep.RegionHeld3
import Derived.Laws.MakeOwn
namespace Go.Proofs.Ytamddfacmmjglaa
open Go.RowKit
set_option linter.unusedVariables false
theorem box_info : (Try.prog.info? 37).map (fun i => (i.zero, i.size, i.bytes)) = some (some (.agg #[.int .i64 0, .slice none 0 0]), 2, 32) := by kernel_rfl
/-- The cells that 'make([]impl.Box, n)' lays. -/
def bzero (n : Nat) : Array Value := madeCells (Value.agg #[.int .i64 0, .slice none 0 0]).cells (n * 2)
theorem make_bs (n : Nat) (hn : n ≤ 1000000000) (W : World) : (Instr.makeSlice 25 (.int .i64 (n : Int)) (.int .i64 (n : Int))).run Try.prog W = .ok (.slice (some ⟨W.heap.size, 0, none⟩) n n) (W.alloc (.cells (bzero n) 37)) := by
  obtain ⟨i, hi, hz, h1, h2⟩ := info_parts box_info
  have hb : (i.bytes : Int) * (n : Int) ≤ 281474976710656 := by rw [h2]; omega
  have hr := run_make (P := Try.prog) W 25 37 i (.agg #[.int .i64 0, .slice none 0 0]) Try.underlying25 hi hz .i64 .i64 n n (by omega) (by omega) hb (by omega)
  simp only [Int.toNat_natCast] at hr
  rw [hr, h1]
  rfl
/-- The block g holds the row V of n boxes' cells; the first k are those of bs, their atoms owned from B on. -/
def BRow (w : World) (g n B k : Nat) (bs : List Bx) : Prop :=
  ∃ V : List Value, w.ownsRow g 37 2 (.slice (some ⟨g, 0, none⟩) n n) n V ∧
    ∀ i, i < k → ∃ Ai ci, V[i * 2]? = some (.int .i64 (bs.getD i ⟨0, []⟩).key) ∧ V[i * 2 + 1]? = some (.slice Ai (bs.getD i ⟨0, []⟩).ins.length ci) ∧ OwnInts w B Ai ci (bs.getD i ⟨0, []⟩).ins
theorem BRow.zero (w : World) (n B : Nat) (bs : List Bx) (hn : n ≤ 1000000000) : BRow (w.alloc (.cells (bzero n) 37)) w.heap.size n B 0 bs :=
  ⟨_, World.ownsRow_lit (base := w.heap.size) (e := 37) (size := 2) w (bzero n) n (Nat.le_refl _) (by unfold maxLen; omega) (by unfold bzero; simp [size_madeCells]), fun i hi => absurd hi (by omega)⟩
theorem BRow.below {w w' : World} {g n B k : Nat} {bs : List Bx} (h : BRow w g n B k bs) (hb : Below w.heap.size w w') : BRow w' g n B k bs := by
  obtain ⟨V, hV, hc⟩ := h
  refine ⟨V, World.ownsRow.kept hV ⟨hb.os, hb.tape, hb.output, hb.size, fun k hk _ => hb.block k hk⟩ (row := none) (.inr (by simp [Value.ownBlock])), fun i hi => ?_⟩
  obtain ⟨Ai, ci, c1, c2, c3⟩ := hc i hi
  exact ⟨Ai, ci, c1, c2, c3.below hb⟩
/-- What it tells of the k-th place. -/
theorem BRow.at {w : World} {g n B k : Nat} {bs : List Bx} (h : BRow w g n B k bs) (j : Nat) (hj : j < n * 2) : (∃ u, w.cell? ⟨g, j, none⟩ = some u) ∧ w.frozen? ⟨g, j, none⟩ = false := by
  obtain ⟨V, hV, _⟩ := h
  refine ⟨⟨V[j]'(by rw [hV.1]; exact hj), ?_⟩, World.ownsRow.frozenAt hV j⟩
  rw [World.ownsRow.cellAt hV j hj, List.getElem?_eq_getElem]
theorem BRow.stored {w : World} {g n B k : Nat} {bs : List Bx} (h : BRow w g n B k bs) (hg : g < B) (hk : k < n) (x : Int) (A : Option Addr) (c : Nat) (ins : List Int) (hx : bs.getD k ⟨0, []⟩ = ⟨x, ins⟩) (ho : OwnInts w B A c ins) :
    BRow ((w.setCell ⟨g, k * 2, none⟩ (.int .i64 x)).setCell ⟨g, k * 2 + 1, none⟩ (.slice A ins.length c)) g n B (k + 1) bs := by
  obtain ⟨V, hV, hc⟩ := h
  have hl : V.length = n * 2 := hV.1
  refine ⟨_, (World.ownsRow.stored (World.ownsRow.stored hV (k * 2) (.int .i64 x)).1 (k * 2 + 1) (.slice A ins.length c)).1, fun i hi => ?_⟩
  by_cases hik : i < k
  · obtain ⟨Ai, ci, c1, c2, c3⟩ := hc i hik
    refine ⟨Ai, ci, ?_, ?_, (c3.far g (k * 2) hg _).far g (k * 2 + 1) hg _⟩
    · rw [List.getElem?_set_ne (by omega), List.getElem?_set_ne (by omega)]; exact c1
    · rw [List.getElem?_set_ne (by omega), List.getElem?_set_ne (by omega)]; exact c2
  · obtain rfl : i = k := by omega
    rw [hx]
    refine ⟨A, c, ?_, ?_, (ho.far g (i * 2) hg _).far g (i * 2 + 1) hg _⟩
    · rw [List.getElem?_set_ne (by omega), List.getElem?_set_self (by omega)]
    · rw [List.getElem?_set_self (by rw [List.length_set]; omega)]
theorem OwnInts.asIn {w : World} {B : Nat} {A : Option Addr} {c : Nat} {xs : List Int} (h : OwnInts w B A c xs) : IntsIn w w.heap.size A xs := fun h0 => by
  obtain ⟨g, hA, hB, hg, hc⟩ := h.cell h0
  exact ⟨g, 0, hA, hg, fun i hi => by rw [Nat.zero_add]; exact hc i hi⟩
theorem BRow.all {w : World} {g B : Nat} {bs : List Bx} (h : BRow w g bs.length B bs.length bs) : BxIn w w.heap.size (some ⟨g, 0, none⟩) bs := fun h0 => by
  obtain ⟨V, hV, hc⟩ := h
  refine ⟨g, 0, rfl, (World.ownsRow.lt hV g rfl).2, fun i hi => ?_⟩
  obtain ⟨Ai, ci, c1, c2, c3⟩ := hc i hi
  refine ⟨Ai, ci, ?_, ?_, c3.asIn⟩
  · rw [Nat.zero_add, World.ownsRow.cellAt hV _ (by omega)]; exact c1
  · rw [Nat.zero_add, World.ownsRow.cellAt hV _ (by omega)]; exact c2
def BsCopy (w : World) (bs : List Bx) (e : Ending) (w' : World) : Prop :=
  ∃ A c, e = .returned (.slice A bs.length c) ∧ BxIn w' w'.heap.size A bs ∧ Below w.heap.size w w'
set_option maxHeartbeats 1600000 in
theorem toBs_any (B : Nat) (A : Option Addr) (bs : List Bx) (c : Nat) (w : World) (h : BxIn w B A bs) (hBw : B ≤ w.heap.size) (hm : bs.length ≤ 1000000000) (hmi : ∀ b ∈ bs, b.ins.length ≤ 1000000000) :
    Calls Try.prog 11 #[.slice A bs.length c] w (BsCopy w bs) := by
  have H := Lib.hid h
  have MI := Lib.hid (fun k (hk : k < bs.length) => hmi (bs.getD k ⟨0, []⟩) (by rw [List.getD_eq_getElem?_getD, List.getElem?_eq_getElem hk]; exact List.getElem_mem _))
  clear h hmi
  have hmk := fun W => make_bs bs.length hm W
  have O0 := Lib.hid (BRow.zero w bs.length (w.heap.size + 1) bs hm)
  generalize bzero bs.length = zs at hmk O0
  go_enter Try.func11, Try.ntmps11
  go_wp2_with fail
  go_loopw [4] (fun i wr => ∃ k : Nat, k ≤ bs.length ∧ i = .int .i64 k ∧ Hid (BRow wr w.heap.size bs.length (w.heap.size + 1) k bs) ∧ Hid (Below w.heap.size w wr) ∧ Hid (w.heap.size + 1 ≤ wr.heap.size)) (fun i _ => bs.length - (intOf i).toNat)
  case atStart => exact ⟨0, Nat.zero_le _, rfl, O0.out, (Below.refl _ _).alloc (Nat.le_refl _) _, by simp [Hid]⟩
  case round =>
    obtain ⟨k, hk, rfl, hO, hB, hz⟩ := hrel
    by_cases hlt : k < bs.length
    · obtain ⟨b, off, rfl, hbB, hc⟩ := (H.out.below (hB.out.mono hBw)) (by omega)
      obtain ⟨Ai, ci, g1, g2, hI⟩ := hc k hlt
      have ML := MI.out k hlt
      have XE := Lib.hid (show ∃ x, bs.getD k ⟨0, []⟩ = x from ⟨_, rfl⟩)
      clear hc
      obtain ⟨x, hx⟩ := XE.out
      rw [hx] at g1 g2 hI ML
      obtain ⟨key, ins⟩ := x
      have X := Lib.hid hx
      clear hx XE
      simp only at g1 g2 hI ML
      have II := Lib.hid hI
      clear hI
      have BZ := Lib.hid (show B ≤ wr.heap.size by have := hB.out.size; omega)
      go_wp2_with fail
      refine (toBox_any key B ins Ai ci wr II.out BZ.out ML).mono ?_
      rintro e w2 ⟨A2, c2, rfl, hO2, hB2⟩
      have OB := Lib.hid (hO.out.below hB2)
      have OI := Lib.hid (hO2.mono hz.out)
      have BB := Lib.hid (drew2 hB.out hB2)
      have ZZ := Lib.hid (show w.heap.size + 1 ≤ w2.heap.size by have := hB2.size; have := hz.out; omega)
      clear hO2 hB2
      obtain ⟨⟨u1, g3⟩, f1⟩ := OB.out.at (k * 2) (by omega)
      obtain ⟨⟨u2, g4⟩, f2⟩ := OB.out.at (k * 2 + 1) (by omega)
      have OS := Lib.hid (OB.out.stored (by omega) hlt key A2 c2 ins X.out OI.out)
      have BS := Lib.hid ((BB.out.setCell (p := ⟨w.heap.size, k * 2, none⟩) (Nat.le_refl _) (.int .i64 key)).setCell (p := ⟨w.heap.size, k * 2 + 1, none⟩) (Nat.le_refl _) (.slice A2 ins.length c2))
      go_wp2_with fail
      go_roundw
      case rel => exact ⟨k + 1, by omega, by go_num, OS.out, BS.out, by have := ZZ.out; simpa [Hid, World.setCell] using this⟩
      case measure => simp [intOf]; omega
    · have hk' : k = bs.length := by omega
      have D := Lib.hid (show BsCopy w bs (.returned (.slice (some ⟨w.heap.size, 0, none⟩) bs.length bs.length)) wr by
        refine ⟨_, _, rfl, ?_, hB.out⟩
        have := hO.out
        rw [hk'] at this
        exact this.all)
      clear hk'
      go_wp2_with fail
      go_ret
      exact D.out
set_option maxHeartbeats 1600000 in
theorem eqBs_same (B B' : Nat) (A A' : Option Addr) (bs : List Bx) (c c' : Nat) (w : World) (h : BxIn w B A bs) (h' : BxIn w B' A' bs) (hBw : B ≤ w.heap.size) (hBw' : B' ≤ w.heap.size) (hm : bs.length ≤ 1000000000) (hmi : ∀ b ∈ bs, b.ins.length ≤ 1000000000000) :
    Calls Try.prog 13 #[.slice A bs.length c, .slice A' bs.length c'] w (BPost w true) := by
  have H := Lib.hid h
  have H' := Lib.hid h'
  have MI := Lib.hid (fun k (hk : k < bs.length) => hmi (bs.getD k ⟨0, []⟩) (by rw [List.getD_eq_getElem?_getD, List.getElem?_eq_getElem hk]; exact List.getElem_mem _))
  clear h h' hmi
  go_enter Try.func13, Try.ntmps13
  go_wp2_with fail
  go_loopw [5] (fun i wr => ∃ k : Nat, k ≤ bs.length ∧ i = .int .i64 k ∧ Hid (Below w.heap.size w wr)) (fun i _ => bs.length - (intOf i).toNat)
  case atStart => exact ⟨0, Nat.zero_le _, rfl, Below.refl _ _⟩
  case round =>
    obtain ⟨k, hk, rfl, hB⟩ := hrel
    by_cases hlt : k < bs.length
    · obtain ⟨b, off, rfl, hb, hc⟩ := (H.out.below (hB.out.mono hBw)) (by omega)
      obtain ⟨b', off', rfl, hb', hc'⟩ := (H'.out.below (hB.out.mono hBw')) (by omega)
      obtain ⟨A1, c1, g1, g2, hI⟩ := hc k hlt
      obtain ⟨A2, c2, g3, g4, hI'⟩ := hc' k hlt
      have ML := MI.out k hlt
      clear hc hc'
      generalize bs.getD k ⟨0, []⟩ = x at g1 g2 g3 g4 hI hI' ML
      obtain ⟨key, ins⟩ := x
      simp only at g1 g2 g3 g4 hI hI' ML
      have j1 : (k : Int) < (bs.length : Int) := by omega
      have z1 : b < wr.heap.size := by have := hB.out.size; omega
      have z2 : b' < wr.heap.size := by have := hB.out.size; omega
      have zB : B ≤ wr.heap.size := by have := hB.out.size; omega
      have zB' : B' ≤ wr.heap.size := by have := hB.out.size; omega
      have hcall' := Lib.hid (fun W (hW : Below wr.heap.size wr W) => eqBox_same key ins B B' A1 A2 c1 c2 W (hI.below (hW.mono zB)) (hI'.below (hW.mono zB')) (Nat.le_trans zB hW.size) (Nat.le_trans zB' hW.size) ML)
      clear hI hI' zB zB'
      go_wp2_with fail
      go_region_held3 (fun w' => w'.cell? ⟨b, off + k * 2, none⟩ = some (.int .i64 key) ∧ w'.cell? ⟨b, off + k * 2 + 1, none⟩ = some (.slice A1 ins.length c1) ∧ w'.cell? ⟨b', off' + k * 2, none⟩ = some (.int .i64 key) ∧ w'.cell? ⟨b', off' + k * 2 + 1, none⟩ = some (.slice A2 ins.length c2)) (first | go_keep | (exact ⟨(hB3.cell (p := ⟨b, off + k * 2, none⟩) (by simpa using z1)).trans g1, (hB3.cell (p := ⟨b, off + k * 2 + 1, none⟩) (by simpa using z1)).trans g2, (hB3.cell (p := ⟨b', off' + k * 2, none⟩) (by simpa using z2)).trans g3, (hB3.cell (p := ⟨b', off' + k * 2 + 1, none⟩) (by simpa using z2)).trans g4⟩)) ((first | (go_at_call 26; refine (hcall'.out _ (by first | exact Below.refl _ _ | exact (Below.refl _ _).drew)).mono ?_; rintro e w3 ⟨rfl, hB3⟩)))
      have hBB := Lib.hid (drew2 hB.out.drew hB3)
      clear hB3
      go_wp2
      go_roundw
      case rel => exact ⟨k + 1, by omega, by go_num, hBB.out⟩
      case measure => simp [intOf]; omega
    · have hk' : k = bs.length := by omega
      clear hk'
      go_wp2_with fail
      go_ret
      exact ⟨rfl, hB.out⟩
end Go.Proofs.Ytamddfacmmjglaa
