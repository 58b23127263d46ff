/- Contracts of the laws' helpers on frames: copied, their size, equal. No condition beyond those in each theorem. -/
import Derived.Test.YtibnjbbiagjnjaaFMath
import Derived.Test.YtibnjbbiagjnjaaRMark
namespace Go.Proofs.Ytibnjbbiagjnjaa
open Go.RowKit
set_option linter.unusedVariables false
theorem bcell {W w1 : World} (hb : Below W.heap.size W w1) : (∀ b o, b < W.heap.size → w1.cell? ⟨b, o, none⟩ = W.cell? ⟨b, o, none⟩) ∧ (∀ b o, b < W.heap.size → w1.frozen? ⟨b, o, none⟩ = W.frozen? ⟨b, o, none⟩) :=
  ⟨fun b o h => hb.cell (p := ⟨b, o, none⟩) h, fun b o h => hb.frozen (p := ⟨b, o, none⟩) h⟩
/-- A store below leaves what a call owns from B on. -/
theorem OwnRs.far {w : World} {B : Nat} {A : Option Addr} {c : Nat} {rs : List Rg} (h : OwnRs w B A c rs) (g j : Nat) (hg : g < B) (v : Value) : OwnRs (w.setCell ⟨g, j, none⟩ v) B A c rs := by
  have hG : w.grownBy (w.setCell ⟨g, j, none⟩ v) (some g) :=
    ⟨rfl, rfl, rfl, by simp [World.setCell], fun k hk hne => Below.heap_setCell _ _ _ _ (fun e => hne (by rw [e]))⟩
  refine h.apart hG fun i k hi hk => ?_
  have h1 := (h.span i hi).1
  injection hk with hk
  omega
def FCopy (w : World) (k a b c : Int) (s : ByteArray) (rs : List Rg) (e : Ending) (w' : World) : Prop :=
  ∃ A' c', e = .returned (.agg #[.int .i64 k, .int .i64 a, .int .i64 b, .int .i64 c, .string s, .slice A' rs.length c']) ∧ OwnRs w' w.heap.size A' c' rs ∧ Below w.heap.size w w'
set_option maxHeartbeats 1600000 in
theorem toF_any (k a b c : Int) (s : ByteArray) (B : Nat) (rs : List Rg) (A : Option Addr) (cap : Nat) (w : World) (h : RsIn w B A rs) (hBw : B ≤ w.heap.size) (hm : rs.length ≤ 1000000000) :
    Calls Try.prog 24 #[.agg #[.int .i64 k, .int .i64 a, .int .i64 b, .int .i64 c, .string s, .slice A rs.length cap]] w (FCopy w k a b c s rs) := by
  have H := Lib.hid h
  clear h
  have HB := Lib.hid (fun o o' o'' => (((Below.refl w.heap.size w).alloc (Nat.le_refl _) o).alloc (by simp) o').alloc (by simp; omega) o'')
  go_enter Try.func24, Try.ntmps24
  go_wp2_with fail
  refine (toRs_any B A rs cap _ (H.out.below ((HB.out _ _ _).mono hBw)) (Nat.le_trans hBw (HB.out _ _ _).size) hm).mono ?_
  rintro e w1 ⟨A1, c1, rfl, hO, hB⟩
  obtain ⟨hc, hf⟩ := bcell hB
  have hz : w.heap.size + 2 < w1.heap.size := by have := hB.size; simp at this; omega
  have O1 := Lib.hid (show OwnRs w1 (w.heap.size + 1 + 1 + 1) A1 c1 rs by have := hO; simp only [World.alloc, Array.size_push] at this; exact this)
  have B1 := Lib.hid (drew2 (HB.out _ _ _) hB)
  clear hO hB
  go_wp2_with fail
  refine bodyPost_ret (v := .agg #[.int .i64 k, .int .i64 a, .int .i64 b, .int .i64 c, .string s, .slice A1 rs.length c1]) (by simp [results, Try.results24, go_sem, hc]) rfl ⟨A1, c1, rfl, ?_, ?_⟩
  · exact OwnRs.mono (B := w.heap.size + 1 + 1 + 1) (((((((O1.out.far (w.heap.size + 1 + 1) 5 (by omega) (.slice A1 rs.length c1)).far (w.heap.size + 1) 0 (by omega) (.int .i64 k)).far (w.heap.size + 1) 1 (by omega) (.int .i64 a)).far (w.heap.size + 1) 2 (by omega) (.int .i64 b)).far (w.heap.size + 1) 3 (by omega) (.int .i64 c)).far (w.heap.size + 1) 4 (by omega) (.string s)).far (w.heap.size + 1) 5 (by omega) (.slice A1 rs.length c1)) (by omega)
  · exact ((((((B1.out.setCell (p := ⟨w.heap.size + 1 + 1, 5, none⟩) (by show w.heap.size ≤ w.heap.size + 1 + 1; omega) (.slice A1 rs.length c1)).setCell (p := ⟨w.heap.size + 1, 0, none⟩) (by show w.heap.size ≤ w.heap.size + 1; omega) (.int .i64 k)).setCell (p := ⟨w.heap.size + 1, 1, none⟩) (by show w.heap.size ≤ w.heap.size + 1; omega) (.int .i64 a)).setCell (p := ⟨w.heap.size + 1, 2, none⟩) (by show w.heap.size ≤ w.heap.size + 1; omega) (.int .i64 b)).setCell (p := ⟨w.heap.size + 1, 3, none⟩) (by show w.heap.size ≤ w.heap.size + 1; omega) (.int .i64 c)).setCell (p := ⟨w.heap.size + 1, 4, none⟩) (by show w.heap.size ≤ w.heap.size + 1; omega) (.string s)).setCell (p := ⟨w.heap.size + 1, 5, none⟩) (by show w.heap.size ≤ w.heap.size + 1; omega) (.slice A1 rs.length c1)
theorem sizeF_fits (k a b c : Int) (s : ByteArray) (A : Option Addr) (n cap : Nat) (w : World) (h : s.size + n ≤ 1048576) :
    Calls Try.prog 22 #[.agg #[.int .i64 k, .int .i64 a, .int .i64 b, .int .i64 c, .string s, .slice A n cap], .int .i64 1048576] w fun e w' => e = .returned (.int .i64 (1048576 - s.size - n)) ∧ Below w.heap.size w w' := by
  have HB := Lib.hid ((Below.refl w.heap.size w).alloc (Nat.le_refl _))
  go_enter Try.func22, Try.ntmps22
  go_wp2_with fail
  refine (size_fits _ _ _ _ _ (by omega) (by omega)).mono ?_
  rintro e w1 ⟨rfl, rfl⟩
  go_wp2
  go_ret
  exact ⟨rfl, HB.out _⟩
theorem sizeF_over (k a b c : Int) (s : ByteArray) (A : Option Addr) (n cap : Nat) (w : World) (hn : n ≤ 9223372036854775807) (hs : s.size ≤ 9223372036854775807) (h : 1048576 < s.size + n) :
    Calls Try.prog 22 #[.agg #[.int .i64 k, .int .i64 a, .int .i64 b, .int .i64 c, .string s, .slice A n cap], .int .i64 1048576] w fun e w' => e = .returned (.int .i64 (-1)) ∧ Below w.heap.size w w' := by
  have HB := Lib.hid ((Below.refl w.heap.size w).alloc (Nat.le_refl _))
  by_cases h1 : 1048576 < s.size
  · go_enter Try.func22, Try.ntmps22
    go_wp2
    go_ret
    exact ⟨rfl, HB.out _⟩
  · go_enter Try.func22, Try.ntmps22
    go_wp2_with fail
    refine (size_over _ _ _ _ _ hn (by omega) (by omega) (by omega)).mono ?_
    rintro e w1 ⟨rfl, rfl⟩
    go_wp2
    go_ret
    exact ⟨rfl, HB.out _⟩
set_option maxHeartbeats 1600000 in
theorem eqF_same (k a b c : Int) (s : ByteArray) (B B' : Nat) (rs : List Rg) (A A' : Option Addr) (cap cap' : Nat) (w : World) (h : RsIn w B A rs) (h' : RsIn w B' A' rs) (hBw : B ≤ w.heap.size) (hBw' : B' ≤ w.heap.size) (hm : rs.length ≤ 1000000000000) :
    Calls Try.prog 25 #[.agg #[.int .i64 k, .int .i64 a, .int .i64 b, .int .i64 c, .string s, .slice A rs.length cap], .agg #[.int .i64 k, .int .i64 a, .int .i64 b, .int .i64 c, .string s, .slice A' rs.length cap']] w (BoolPost w true) := by
  have H := Lib.hid h
  have H' := Lib.hid h'
  clear h h'
  have HB := Lib.hid (fun o o' => ((Below.refl w.heap.size w).alloc (Nat.le_refl _) o).alloc (by simp) o')
  go_enter Try.func25, Try.ntmps25
  go_wp2_with fail
  refine (eqRs_any B B' A A' rs rs cap cap' _ (H.out.below ((HB.out _ _).mono hBw)) (H'.out.below ((HB.out _ _).mono hBw')) (Nat.le_trans hBw (HB.out _ _).size) (Nat.le_trans hBw' (HB.out _ _).size) hm).mono ?_
  rintro e w1 ⟨rfl, hB⟩
  have B1 := Lib.hid (drew2 (HB.out _ _) hB)
  clear hB
  have e1 : decide (rs = rs) = true := decide_eq_true rfl
  go_wp2
  go_ret
  exact ⟨rfl, B1.out⟩
end Go.Proofs.Ytibnjbbiagjnjaa
