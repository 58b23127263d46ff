/- Contracts of the laws' helpers on one box: copied, equal, its size. No condition beyond those in each theorem. -/
import Derived.Test.YtamddfacmmjglaaDBox
import Derived.Test.YtamddfacmmjglaaIntsTo
namespace Go.Proofs.Ytamddfacmmjglaa
open Go.RowKit
set_option linter.unusedVariables false
theorem bcell {W w1 : World} (hb : Below W.heap.size W w1) : (∀ b o, b < W.heap.size → w1.cell? ⟨b, o, none⟩ = W.cell? ⟨b, o, none⟩) ∧ (∀ b o, b < W.heap.size → w1.frozen? ⟨b, o, none⟩ = W.frozen? ⟨b, o, none⟩) :=
  ⟨fun b o h => hb.cell (p := ⟨b, o, none⟩) h, fun b o h => hb.frozen (p := ⟨b, o, none⟩) h⟩
/-- A store below leaves what a call owns from B on. -/
theorem OwnInts.far {w : World} {B : Nat} {A : Option Addr} {c : Nat} {xs : List Int} (h : OwnInts w B A c xs) (g j : Nat) (hg : g < B) (v : Value) : OwnInts (w.setCell ⟨g, j, none⟩ v) B A c xs := by
  have hG : w.grownBy (w.setCell ⟨g, j, none⟩ v) (some g) :=
    ⟨rfl, rfl, rfl, by simp [World.setCell], fun k hk hne => Below.heap_setCell _ _ _ _ (fun e => hne (by rw [e]))⟩
  exact h.kept hG (fun k hk => by injection hk with hk; omega)
def BoxCopy (w : World) (key : Int) (ins : List Int) (e : Ending) (w' : World) : Prop :=
  ∃ A' c', e = .returned (.agg #[.int .i64 key, .slice A' ins.length c']) ∧ OwnInts w' w.heap.size A' c' ins ∧ Below w.heap.size w w'
set_option maxHeartbeats 1600000 in
theorem toBox_any (key : Int) (B : Nat) (ins : List Int) (A : Option Addr) (cap : Nat) (w : World) (h : IntsIn w B A ins) (hBw : B ≤ w.heap.size) (hm : ins.length ≤ 1000000000) :
    Calls Try.prog 22 #[.agg #[.int .i64 key, .slice A ins.length cap]] w (BoxCopy w key ins) := by
  have H := Lib.hid h
  clear h
  have HB := Lib.hid (fun o o' o'' => (((Below.refl w.heap.size w).alloc (Nat.le_refl _) o).alloc (by simp) o').alloc (by simp; omega) o'')
  go_enter Try.func22, Try.ntmps22
  go_wp2_with fail
  refine (toInts_any B A ins cap _ (H.out.below ((HB.out _ _ _).mono hBw)) (Nat.le_trans hBw (HB.out _ _ _).size) hm).mono ?_
  rintro e w1 ⟨A1, c1, rfl, hO, hB⟩
  obtain ⟨hc, hf⟩ := bcell hB
  have hz : w.heap.size + 2 < w1.heap.size := by have := hB.size; simp at this; omega
  have O1 := Lib.hid (show OwnInts w1 (w.heap.size + 1 + 1 + 1) A1 c1 ins by have := hO; simp only [World.alloc, Array.size_push] at this; exact this)
  have B1 := Lib.hid (drew2 (HB.out _ _ _) hB)
  clear hO hB
  go_wp2_with fail
  refine bodyPost_ret (v := .agg #[.int .i64 key, .slice A1 ins.length c1]) (by simp [results, Try.results22, go_sem, hc]) rfl ⟨A1, c1, rfl, ?_, ?_⟩
  · exact OwnInts.mono (B := w.heap.size + 1 + 1 + 1) (((O1.out.far (w.heap.size + 1 + 1) 1 (by omega) (.slice A1 ins.length c1)).far (w.heap.size + 1) 0 (by omega) (.int .i64 key)).far (w.heap.size + 1) 1 (by omega) (.slice A1 ins.length c1)) (by omega)
  · exact ((B1.out.setCell (p := ⟨w.heap.size + 1 + 1, 1, none⟩) (by show w.heap.size ≤ w.heap.size + 1 + 1; omega) (.slice A1 ins.length c1)).setCell (p := ⟨w.heap.size + 1, 0, none⟩) (by show w.heap.size ≤ w.heap.size + 1; omega) (.int .i64 key)).setCell (p := ⟨w.heap.size + 1, 1, none⟩) (by show w.heap.size ≤ w.heap.size + 1; omega) (.slice A1 ins.length c1)
set_option maxHeartbeats 800000 in
theorem eqBox_same (key : Int) (ins : List Int) (B B' : Nat) (A A' : Option Addr) (c c' : Nat) (w : World) (h : IntsIn w B A ins) (h' : IntsIn w B' A' ins) (hBw : B ≤ w.heap.size) (hBw' : B' ≤ w.heap.size) (hm : ins.length ≤ 1000000000000) :
    Calls Try.prog 26 #[.agg #[.int .i64 key, .slice A ins.length c], .agg #[.int .i64 key, .slice A' ins.length c']] w (BPost w true) := by
  have H := Lib.hid h
  have H' := Lib.hid h'
  clear h h'
  have HB := Lib.hid (fun o o' => ((Below.refl w.heap.size w).alloc (Nat.le_refl _) o).alloc (by simp) o')
  go_enter Try.func26, Try.ntmps26
  go_wp2_with fail
  refine (eqIntS_any B B' A A' ins ins c c' _ (H.out.below ((HB.out _ _).mono hBw)) (H'.out.below ((HB.out _ _).mono hBw')) (Nat.le_trans hBw (HB.out _ _).size) (Nat.le_trans hBw' (HB.out _ _).size) hm).mono ?_
  rintro e w1 ⟨rfl, hB⟩
  have B1 := Lib.hid (drew2 (HB.out _ _) hB)
  clear hB
  have e1 : decide (ins = ins) = true := decide_eq_true rfl
  go_wp2
  go_ret
  exact ⟨rfl, B1.out⟩
theorem szInts_fits (A : Option Addr) (n c : Nat) (left : Int) (w : World) (h0 : left ≤ 1048576) (h : (n : Int) ≤ left) : Calls Try.prog 35 #[.slice A n c, .int .i64 left] w fun e w' => e = .returned (.int .i64 (left - n)) ∧ w = w' := by
  go_enter Try.func35, Try.ntmps35
  go_wp2
  go_ret
  exact ⟨rfl, rfl⟩
theorem szInts_over (A : Option Addr) (n c : Nat) (left : Int) (w : World) (hn : n ≤ 9223372036854775807) (h0 : 0 ≤ left) (h1 : left ≤ 1048576) (h : left < (n : Int)) : Calls Try.prog 35 #[.slice A n c, .int .i64 left] w fun e w' => e = .returned (.int .i64 (-1)) ∧ w = w' := by
  go_enter Try.func35, Try.ntmps35
  go_wp2
  go_ret
  exact ⟨rfl, rfl⟩
theorem szBox_fits (key : Int) (A : Option Addr) (n c : Nat) (left : Int) (w : World) (h0 : left ≤ 1048576) (h : (n : Int) ≤ left) : Calls Try.prog 19 #[.agg #[.int .i64 key, .slice A n c], .int .i64 left] w fun e w' => e = .returned (.int .i64 (left - n)) ∧ Below w.heap.size w w' := by
  have HB := Lib.hid ((Below.refl w.heap.size w).alloc (Nat.le_refl _))
  go_enter Try.func19, Try.ntmps19
  go_wp2_with fail
  refine (szInts_fits A n c left _ h0 h).mono ?_
  rintro e w1 ⟨rfl, rfl⟩
  go_wp2
  go_ret
  exact ⟨rfl, HB.out _⟩
theorem szBox_over (key : Int) (A : Option Addr) (n c : Nat) (left : Int) (w : World) (hn : n ≤ 9223372036854775807) (h0 : 0 ≤ left) (h1 : left ≤ 1048576) (h : left < (n : Int)) : Calls Try.prog 19 #[.agg #[.int .i64 key, .slice A n c], .int .i64 left] w fun e w' => e = .returned (.int .i64 (-1)) ∧ Below w.heap.size w w' := by
  have HB := Lib.hid ((Below.refl w.heap.size w).alloc (Nat.le_refl _))
  go_enter Try.func19, Try.ntmps19
  go_wp2_with fail
  refine (szInts_over A n c left _ hn h0 h1 h).mono ?_
  rintro e w1 ⟨rfl, rfl⟩
  go_wp2
  go_ret
  exact ⟨rfl, HB.out _⟩
/-- How many atoms the boxes hold. -/
def btotal : List Bx → Nat
  | [] => 0
  | b :: bs => b.ins.length + btotal bs
theorem btotal_drop_succ {bs : List Bx} {k : Nat} (h : k < bs.length) : btotal (bs.drop k) = (bs.getD k ⟨0, []⟩).ins.length + btotal (bs.drop (k + 1)) := by
  rw [List.drop_eq_getElem_cons h, List.getD_eq_getElem?_getD, List.getElem?_eq_getElem h]; rfl
set_option maxHeartbeats 1600000 in
theorem szBoxS_any (B : Nat) (A : Option Addr) (bs : List Bx) (c : Nat) (w : World) (h : BxIn w B A bs) (hBw : B ≤ w.heap.size) (hm : bs.length ≤ 9223372036854775807) (hmi : ∀ b ∈ bs, b.ins.length ≤ 9223372036854775807) :
    Calls Try.prog 9 #[.slice A bs.length c, .int .i64 1048576] w fun e w' => e = .returned (.int .i64 (if bs.length + btotal bs ≤ 1048576 then 1048576 - (bs.length : Int) - (btotal bs : Int) else -1)) ∧ Below w.heap.size w w' := by
  have H := Lib.hid h
  have MI := Lib.hid (fun k (hk : k < bs.length) => hmi (bs.getD k ⟨0, []⟩) (by rw [List.getD_eq_getElem?_getD, List.getElem?_eq_getElem hk]; exact List.getElem_mem _))
  clear h hmi
  obtain ⟨z, hz⟩ : ∃ z, btotal bs = z := ⟨_, rfl⟩
  rw [hz]
  obtain ⟨res, hres⟩ : ∃ res : Int, (if bs.length + z ≤ 1048576 then 1048576 - (bs.length : Int) - (z : Int) else -1) = res := ⟨_, rfl⟩
  rw [hres]
  have Z := Lib.hid hz
  have RES := Lib.hid hres
  clear hz hres
  by_cases hl : 1048576 < bs.length
  · have E := Lib.hid (show (-1 : Int) = res by rw [← RES.out, if_neg (by omega)])
    go_enter Try.func9, Try.ntmps9
    go_wp2
    go_ret
    exact ⟨by rw [← E.out]; rfl, Below.refl _ _⟩
  · go_enter Try.func9, Try.ntmps9
    go_wp2_with fail
    go_loopw [1, 5] (fun q i wr => ∃ (k : Nat) (left : Int), k ≤ bs.length ∧ i = .int .i64 k ∧ q = .int .i64 left ∧ 0 ≤ left ∧ left ≤ 1048576 ∧ Hid (left = 1048576 - (bs.length : Int) - (z : Int) + (btotal (bs.drop k) : Int)) ∧ Hid (Below w.heap.size w wr)) (fun _ i _ => bs.length - (intOf i).toNat)
    case atStart => exact ⟨0, 1048576 - bs.length, Nat.zero_le _, rfl, rfl, by omega, by omega, by have := Z.out; rw [List.drop_zero, this]; exact Lib.hid (by omega), Below.refl _ _⟩
    case round =>
      obtain ⟨k, left, hk, rfl, rfl, hl0, hl1, hleft, hB⟩ := hrel
      by_cases hlt : k < bs.length
      · obtain ⟨b, off, rfl, hbB, hcc⟩ := (H.out.below (hB.out.mono hBw)) (by omega)
        obtain ⟨Ai, ci, g1, g2, _⟩ := hcc k hlt
        have ML := MI.out k hlt
        have S := Lib.hid (btotal_drop_succ hlt)
        clear hcc
        generalize bs.getD k ⟨0, []⟩ = x at g1 g2 ML S
        obtain ⟨key, ins⟩ := x
        simp only at g1 g2 ML
        by_cases hf : (ins.length : Int) ≤ left
        · have E := Lib.hid (show left - ins.length = 1048576 - (bs.length : Int) - (z : Int) + (btotal (bs.drop (k + 1)) : Int) by have h1 := hleft.out; have h2 := S.out; simp only at h2; rw [h2] at h1; omega)
          go_wp2_with fail
          refine (szBox_fits key Ai ins.length ci left wr hl1 hf).mono ?_
          rintro e w2 ⟨rfl, hB2⟩
          have B2 := Lib.hid (drew2 hB.out hB2)
          clear hB2
          go_wp2_with fail
          go_roundw
          case rel => exact ⟨k + 1, left - ins.length, by omega, by go_num, rfl, by omega, by omega, E.out, B2.out⟩
          case measure => simp [intOf]; omega
        · have E := Lib.hid (show (-1 : Int) = res by
            have h1 := hleft.out; have h2 := S.out; simp only at h2; rw [h2] at h1
            rw [← RES.out, if_neg (by omega)])
          go_wp2_with fail
          refine (szBox_over key Ai ins.length ci left wr ML hl0 hl1 (by omega)).mono ?_
          rintro e w2 ⟨rfl, hB2⟩
          have B2 := Lib.hid (drew2 hB.out hB2)
          clear hB2
          go_wp2
          go_ret
          exact ⟨by rw [← E.out]; rfl, B2.out⟩
      · have hk' : k = bs.length := by omega
        have E := Lib.hid (show left = res by
          have h1 := hleft.out
          rw [hk', List.drop_length] at h1
          have h2 : (btotal [] : Int) = 0 := rfl
          rw [h2] at h1
          rw [← RES.out, if_pos (by omega)]; omega)
        clear hk'
        go_wp2_with fail
        go_ret
        exact ⟨by rw [← E.out]; rfl, hB.out⟩
end Go.Proofs.Ytamddfacmmjglaa
