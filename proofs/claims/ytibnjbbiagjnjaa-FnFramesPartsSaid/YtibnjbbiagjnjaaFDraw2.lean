/- The drawn input of the laws on frames, and a drawn valid frame. No condition but that the reader has not been asked too often. -/
import Derived.Test.YtibnjbbiagjnjaaFDraw
namespace Go.Proofs.Ytibnjbbiagjnjaa
open Go.RowKit
set_option linter.unusedVariables false
/-- A frame stored over a zero one. -/
theorem fin_cells {w : World} {h : Nat} (res : FBlk w h 0 0 0 0 ⟨#[]⟩ none 0 0) (k a b c : Int) (s : ByteArray) (A : Option Addr) (n cap : Nat) :
    FBlk ((((((w.setCell ⟨h, 0, none⟩ (.int .i64 k)).setCell ⟨h, 1, none⟩ (.int .i64 a)).setCell ⟨h, 2, none⟩ (.int .i64 b)).setCell ⟨h, 3, none⟩ (.int .i64 c)).setCell ⟨h, 4, none⟩ (.string s)).setCell ⟨h, 5, none⟩ (.slice A n cap)) h k a b c s A n cap ∧ w.grownBy ((((((w.setCell ⟨h, 0, none⟩ (.int .i64 k)).setCell ⟨h, 1, none⟩ (.int .i64 a)).setCell ⟨h, 2, none⟩ (.int .i64 b)).setCell ⟨h, 3, none⟩ (.int .i64 c)).setCell ⟨h, 4, none⟩ (.string s)).setCell ⟨h, 5, none⟩ (.slice A n cap)) (some h) :=
  ⟨(((((res.set0 k).set1 a).set2 b).set3 c).set4 s).set5 A n cap,
    only_trans (only_trans (only_trans (only_trans (only_trans (set_grown w _ 0 _) (set_grown _ _ 1 _)) (set_grown _ _ 2 _)) (set_grown _ _ 3 _)) (set_grown _ _ 4 _)) (set_grown _ _ 5 _)⟩
theorem OwnRs.keep {w w' : World} {B : Nat} {A : Option Addr} {c : Nat} {rs : List Rg} {row : Option Nat} (h : OwnRs w B A c rs) (hg : w.grownBy w' row) (hne : (Value.slice A rs.length c).ownBlock ≠ row) : OwnRs w' B A c rs := World.ownsRow.kept h hg (.inr hne)
def SomeFr (w : World) (e : Ending) (w' : World) : Prop := ∃ (k a b c : Int) (s : ByteArray) (A : Option Addr) (cap : Nat) (rs : List Rg), e = .returned (.agg #[.int .i64 k, .int .i64 a, .int .i64 b, .int .i64 c, .string s, .slice A rs.length cap]) ∧ rs.length ≤ 40 ∧ s.size ≤ 24 ∧ OwnRs w' w.heap.size A cap rs ∧ Below w.heap.size w w'
set_option maxHeartbeats 800000 in
theorem drawFV_any (A : Option Addr) (len cap : Nat) (w : World) (h : CodeArg w A len cap) : Calls Try.prog 29 #[.slice A len cap] w (SomeFr w) := by
  have B0 := Lib.hid ((Below.refl w.heap.size w).alloc (Nat.le_refl _) (.cells #[.int .i64 0, .int .i64 0, .int .i64 0, .int .i64 0, .string ⟨#[]⟩, .slice none 0 0] 25))
  have X0 := Lib.hid (FBlk.new w 0 0 0 0 ⟨#[]⟩ none 0 0)
  have C0 := Lib.hid (h.below B0.out)
  have hz0 : (w.alloc (.cells #[.int .i64 0, .int .i64 0, .int .i64 0, .int .i64 0, .string ⟨#[]⟩, .slice none 0 0] 25)).heap.size = w.heap.size + 1 := by simp
  clear h
  go_enter Try.func29, Try.ntmps29
  go_wp2_with fail
  refine (open_any A len cap _ C0.out).mono ?_
  rintro e w1 ⟨r, rfl, hR, hB, hr⟩
  rw [hz0] at hr
  have X1 := Lib.hid (X0.out.below hB (by rw [hz0]; omega))
  have B1 := Lib.hid (drew2 B0.out hB)
  have R1 := Lib.hid hR
  clear hB hR hz0
  go_wp2_with fail
  refine (frame_any w1 r 0 R1.out (by omega)).mono ?_
  rintro e w2 ⟨k, a, b, c, s, A2, c2, rs, rfl, hl, hs, hO, _, hG⟩
  have X2 := Lib.hid (X1.out.kept hG (by intro e; injection e; omega))
  have B2 := Lib.hid (B1.out.grown hG B1.out.size (fun k hk => by injection hk; omega))
  obtain ⟨fb, fg⟩ := fin_cells X2.out k a b c s A2 rs.length c2
  have O3 := Lib.hid ((hO.keep fg (X2.out.row hO)).mono B1.out.size)
  have B3 := Lib.hid (B2.out.grown fg B2.out.size (fun k hk => by injection hk; omega))
  have F := Lib.hid fb
  obtain ⟨y0, y1, y2, y3, y4, y5⟩ := X2.out.cells
  have fr := fun j => X2.out.soft j
  clear fb fg hO hG R1
  go_wp2_with fail
  obtain ⟨z0, z1, z2, z3, z4, z5⟩ := F.out.cells
  refine bodyPost_ret (v := .agg #[.int .i64 k, .int .i64 a, .int .i64 b, .int .i64 c, .string s, .slice A2 rs.length c2]) (by simp [results, Try.results29, go_sem, z0, z1, z2, z3, z4, z5]) rfl ⟨k, a, b, c, s, A2, c2, rs, rfl, hl, hs, O3.out, B3.out⟩
set_option maxHeartbeats 800000 in
theorem drawFE_any (A : Option Addr) (len cap : Nat) (w : World) (h : CodeArg w A len cap) : Calls Try.prog 11 #[.slice A len cap] w (SomeFr w) := by
  have B0 := Lib.hid ((Below.refl w.heap.size w).alloc (Nat.le_refl _) (.cells #[.int .i64 0, .int .i64 0, .int .i64 0, .int .i64 0, .string ⟨#[]⟩, .slice none 0 0] 25))
  have X0 := Lib.hid (FBlk.new w 0 0 0 0 ⟨#[]⟩ none 0 0)
  have C0 := Lib.hid (h.below B0.out)
  have hz0 : (w.alloc (.cells #[.int .i64 0, .int .i64 0, .int .i64 0, .int .i64 0, .string ⟨#[]⟩, .slice none 0 0] 25)).heap.size = w.heap.size + 1 := by simp
  clear h
  go_enter Try.func11, Try.ntmps11
  go_wp2_with fail
  refine (open_any A len cap _ C0.out).mono ?_
  rintro e w1 ⟨r, rfl, hR, hB, hr⟩
  rw [hz0] at hr
  have X1 := Lib.hid (X0.out.below hB (by rw [hz0]; omega))
  have B1 := Lib.hid (drew2 B0.out hB)
  have R1 := Lib.hid hR
  clear hB hR hz0
  go_wp2_with fail
  refine (frame_any w1 r 0 R1.out (by omega)).mono ?_
  rintro e w2 ⟨k, a, b, c, s, A2, c2, rs, rfl, hl, hs, hO, _, hG⟩
  have X2 := Lib.hid (X1.out.kept hG (by intro e; injection e; omega))
  have B2 := Lib.hid (B1.out.grown hG B1.out.size (fun k hk => by injection hk; omega))
  obtain ⟨fb, fg⟩ := fin_cells X2.out k a b c s A2 rs.length c2
  have O3 := Lib.hid ((hO.keep fg (X2.out.row hO)).mono B1.out.size)
  have B3 := Lib.hid (B2.out.grown fg B2.out.size (fun k hk => by injection hk; omega))
  have F := Lib.hid fb
  obtain ⟨y0, y1, y2, y3, y4, y5⟩ := X2.out.cells
  have fr := fun j => X2.out.soft j
  clear fb fg hO hG R1
  go_wp2_with fail
  obtain ⟨z0, z1, z2, z3, z4, z5⟩ := F.out.cells
  refine bodyPost_ret (v := .agg #[.int .i64 k, .int .i64 a, .int .i64 b, .int .i64 c, .string s, .slice A2 rs.length c2]) (by simp [results, Try.results11, go_sem, z0, z1, z2, z3, z4, z5]) rfl ⟨k, a, b, c, s, A2, c2, rs, rfl, hl, hs, O3.out, B3.out⟩
set_option maxHeartbeats 800000 in
theorem drawFL_any (A : Option Addr) (len cap : Nat) (w : World) (h : CodeArg w A len cap) : Calls Try.prog 28 #[.slice A len cap] w (SomeFr w) := by
  have B0 := Lib.hid ((Below.refl w.heap.size w).alloc (Nat.le_refl _) (.cells #[.int .i64 0, .int .i64 0, .int .i64 0, .int .i64 0, .string ⟨#[]⟩, .slice none 0 0] 25))
  have X0 := Lib.hid (FBlk.new w 0 0 0 0 ⟨#[]⟩ none 0 0)
  have C0 := Lib.hid (h.below B0.out)
  have hz0 : (w.alloc (.cells #[.int .i64 0, .int .i64 0, .int .i64 0, .int .i64 0, .string ⟨#[]⟩, .slice none 0 0] 25)).heap.size = w.heap.size + 1 := by simp
  clear h
  go_enter Try.func28, Try.ntmps28
  go_wp2_with fail
  refine (open_any A len cap _ C0.out).mono ?_
  rintro e w1 ⟨r, rfl, hR, hB, hr⟩
  rw [hz0] at hr
  have X1 := Lib.hid (X0.out.below hB (by rw [hz0]; omega))
  have B1 := Lib.hid (drew2 B0.out hB)
  have R1 := Lib.hid hR
  clear hB hR hz0
  go_wp2_with fail
  refine (frame_any w1 r 0 R1.out (by omega)).mono ?_
  rintro e w2 ⟨k, a, b, c, s, A2, c2, rs, rfl, hl, hs, hO, _, hG⟩
  have X2 := Lib.hid (X1.out.kept hG (by intro e; injection e; omega))
  have B2 := Lib.hid (B1.out.grown hG B1.out.size (fun k hk => by injection hk; omega))
  obtain ⟨fb, fg⟩ := fin_cells X2.out k a b c s A2 rs.length c2
  have O3 := Lib.hid ((hO.keep fg (X2.out.row hO)).mono B1.out.size)
  have B3 := Lib.hid (B2.out.grown fg B2.out.size (fun k hk => by injection hk; omega))
  have F := Lib.hid fb
  obtain ⟨y0, y1, y2, y3, y4, y5⟩ := X2.out.cells
  have fr := fun j => X2.out.soft j
  clear fb fg hO hG R1
  go_wp2_with fail
  obtain ⟨z0, z1, z2, z3, z4, z5⟩ := F.out.cells
  refine bodyPost_ret (v := .agg #[.int .i64 k, .int .i64 a, .int .i64 b, .int .i64 c, .string s, .slice A2 rs.length c2]) (by simp [results, Try.results28, go_sem, z0, z1, z2, z3, z4, z5]) rfl ⟨k, a, b, c, s, A2, c2, rs, rfl, hl, hs, O3.out, B3.out⟩
end Go.Proofs.Ytibnjbbiagjnjaa
