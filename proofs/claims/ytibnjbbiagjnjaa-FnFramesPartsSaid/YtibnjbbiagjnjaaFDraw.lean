/- Contracts of the drawn frames. No condition but that the reader has not been asked too often. -/
import Derived.Test.YtibnjbbiagjnjaaFEncI
import Derived.Test.YtibnjbbiagjnjaaRDraw
import Derived.Deep.CutRange
import Derived.Deep.CutBlock
namespace Go.Proofs.Ytibnjbbiagjnjaa
open Go.RowKit
set_option linter.unusedVariables false
def DrewStr (w : World) (r N : Nat) (e : Ending) (w' : World) : Prop := ∃ s : ByteArray, e = .returned (.string s) ∧ s.size ≤ 12 ∧ Rd w' r N ∧ w.grownBy w' (some r)
theorem str_at (w : World) (ss : List ByteArray) (t : TypeId) (i : Nat) (h : i < ss.length) : (w.alloc (.cells (ss.map Value.string).toArray t)).cell? ⟨w.heap.size, i, none⟩ = some (.string (ss[i]'h)) := by
  rw [cell_of_row _ _ _ _ _ _ (heap_alloc_new w _)]
  simp [h]
def words : List ByteArray := [⟨#[]⟩, ⟨#[97]⟩, ⟨#[97, 98]⟩, ⟨#[97, 98, 99]⟩, ⟨#[104, 101, 108, 108, 111]⟩, ⟨#[100, 97, 116, 97, 32, 100, 97, 116, 97]⟩, ⟨#[48, 49, 50, 51, 52, 53, 54, 55, 56, 57, 97, 98]⟩, ⟨#[120]⟩]
theorem words_size : ∀ s ∈ words, s.size ≤ 12 := by decide
theorem of_any (w : World) (r N : Nat) (h : Rd w r N) (hN : N ≤ 1000000000) :
    Calls Try.prog 60 #[.pointer (some ⟨r, 0, none⟩), .slice (some ⟨w.heap.size, 0, none⟩) 8 8] (w.alloc (.cells (words.map Value.string).toArray 9)) (DrewStr w r (N + 1)) := by
  have hr := h.lt
  have H := Lib.hid (h.alloc (.cells (words.map Value.string).toArray 9))
  have C := Lib.hid (fun i (hi : i < words.length) => str_at w words 9 i hi)
  have G := Lib.hid (World.grownBy_alloc w (.cells (words.map Value.string).toArray 9) (some r))
  have hz : w.heap.size < (w.alloc (.cells (words.map Value.string).toArray 9)).heap.size := by simp
  clear h
  generalize w.alloc (.cells (words.map Value.string).toArray 9) = w0 at H C G hz ⊢
  go_enter Try.func60, Try.ntmps60
  go_wp2_with fail
  refine (pick_any _ r N 8 H.out (by omega) (by omega) (by omega)).mono ?_
  rintro e w1 ⟨m, rfl, hm0, hm1, hR, hG⟩
  obtain ⟨i, rfl⟩ : ∃ i : Nat, m = i := ⟨m.toNat, by omega⟩
  have hi : i < 8 := by omega
  have hc := (only_cell hG (p := ⟨w.heap.size, i, none⟩) hz (by simp; omega)).trans (C.out i hi)
  have hs := words_size _ (List.getElem_mem (show i < words.length from hi))
  generalize words[i]'hi = s at hc hs
  have D := Lib.hid (show DrewStr w r (N + 1) (.returned (.string s)) w1 from ⟨s, rfl, hs, hR, only_trans G.out hG⟩)
  clear hR hG C G H
  go_wp2
  go_ret
  exact D.out
theorem data_any (w : World) (r N : Nat) (h : Rd w r N) (hN : N ≤ 1000000000) : Calls Try.prog 50 #[.pointer (some ⟨r, 0, none⟩)] w (DrewStr w r (N + 1)) := by
  have O := Lib.hid (of_any w r N h hN)
  clear h
  go_enter Try.func50, Try.ntmps50
  go_wp2_with fail
  refine O.out.mono ?_
  rintro e w1 ⟨s, rfl, hs, hR, hG⟩
  have D := Lib.hid (show DrewStr w r (N + 1) (.returned (.string s)) w1 from ⟨s, rfl, hs, hR, hG⟩)
  clear hR hG
  go_wp2
  go_ret
  exact D.out
/-! ### the variable that is drawn -/
theorem FBlk.lt {w : World} {g : Nat} {k a b c : Int} {s : ByteArray} {A : Option Addr} {n cap : Nat} (h : FBlk w g k a b c s A n cap) : g < w.heap.size := by
  rcases Nat.lt_or_ge g w.heap.size with hlt | hge
  · exact hlt
  · unfold FBlk at h; rw [Array.getElem?_eq_none hge] at h; cases h
theorem FBlk.kept {w w' : World} {g : Nat} {k a b c : Int} {s : ByteArray} {A : Option Addr} {n cap : Nat} {row : Option Nat} (h : FBlk w g k a b c s A n cap) (hg : w.grownBy w' row) (hr : row ≠ some g) : FBlk w' g k a b c s A n cap :=
  (hg.block g h.lt (fun e => hr e.symm)).trans h
theorem FBlk.soft {w : World} {g : Nat} {k a b c : Int} {s : ByteArray} {A : Option Addr} {n cap : Nat} (h : FBlk w g k a b c s A n cap) (j : Nat) : w.frozen? ⟨g, j, none⟩ = false := by
  unfold FBlk at h; simp [World.frozen?, h]
theorem FBlk.row {w : World} {g : Nat} {k a b c : Int} {s : ByteArray} {A : Option Addr} {n cap : Nat} (h : FBlk w g k a b c s A n cap) {B : Nat} {Ai : Option Addr} {ci : Nat} {rs : List Rg} (ho : OwnRs w B Ai ci rs) : (Value.slice Ai rs.length ci).ownBlock ≠ some g := by
  intro e
  rcases ho.2 with ⟨h1, _⟩ | ⟨g', cap, cur, h1, _, hh, _⟩
  · rw [h1] at e; simp [Value.ownBlock] at e
  · rw [h1] at e
    simp only [Value.ownBlock, Option.some.injEq] at e
    unfold FBlk at h
    rw [e, h] at hh
    injection hh with h1
    injection h1 with _ h2
    exact absurd h2 (by decide)
theorem set_grown (w : World) (g j : Nat) (v : Value) : w.grownBy (w.setCell ⟨g, j, none⟩ v) (some g) :=
  ⟨rfl, rfl, rfl, by simp [World.setCell], fun k hk hne => Below.heap_setCell _ _ _ _ (fun e => hne (by rw [e]))⟩
section
variable {w : World} {g : Nat} {k a b c : Int} {s : ByteArray} {A : Option Addr} {n cap : Nat}
theorem FBlk.set0 (h : FBlk w g k a b c s A n cap) (x : Int) : FBlk (w.setCell ⟨g, 0, none⟩ (.int .i64 x)) g x a b c s A n cap := by unfold FBlk at h ⊢; simp [World.setCell, Array.getElem?_modify, h]
theorem FBlk.set1 (h : FBlk w g k a b c s A n cap) (x : Int) : FBlk (w.setCell ⟨g, 1, none⟩ (.int .i64 x)) g k x b c s A n cap := by unfold FBlk at h ⊢; simp [World.setCell, Array.getElem?_modify, h]
theorem FBlk.set2 (h : FBlk w g k a b c s A n cap) (x : Int) : FBlk (w.setCell ⟨g, 2, none⟩ (.int .i64 x)) g k a x c s A n cap := by unfold FBlk at h ⊢; simp [World.setCell, Array.getElem?_modify, h]
theorem FBlk.set3 (h : FBlk w g k a b c s A n cap) (x : Int) : FBlk (w.setCell ⟨g, 3, none⟩ (.int .i64 x)) g k a b x s A n cap := by unfold FBlk at h ⊢; simp [World.setCell, Array.getElem?_modify, h]
theorem FBlk.set4 (h : FBlk w g k a b c s A n cap) (x : ByteArray) : FBlk (w.setCell ⟨g, 4, none⟩ (.string x)) g k a b c x A n cap := by unfold FBlk at h ⊢; simp [World.setCell, Array.getElem?_modify, h]
theorem FBlk.set5 (h : FBlk w g k a b c s A n cap) (A' : Option Addr) (n' cap' : Nat) : FBlk (w.setCell ⟨g, 5, none⟩ (.slice A' n' cap')) g k a b c s A' n' cap' := by unfold FBlk at h ⊢; simp [World.setCell, Array.getElem?_modify, h]
end
structure FSt (w0 w : World) (g r N : Nat) (k a b c : Int) (s : ByteArray) (A : Option Addr) (cap : Nat) (rs : List Rg) : Prop where
  blk : FBlk w g k a b c s A rs.length cap
  res : FBlk w w0.heap.size 0 0 0 0 ⟨#[]⟩ none 0 0
  own : OwnRs w w0.heap.size A cap rs
  len : rs.length ≤ 40
  size : s.size ≤ 24
  rd : Rd w r N
  grown : w0.grownBy w (some r)
  hr : r < w0.heap.size
  hg : w0.heap.size < g
section
variable {w0 w w' : World} {g r N : Nat} {k a b c : Int} {s : ByteArray} {A : Option Addr} {cap : Nat} {rs : List Rg}
theorem FSt.pick (h : FSt w0 w g r N k a b c s A cap rs) {N' : Nat} (hG : w.grownBy w' (some r)) (hR : Rd w' r N') : FSt w0 w' g r N' k a b c s A cap rs := by
  have h1 := h.hr
  have h2 := h.hg
  exact ⟨h.blk.kept hG (by intro e; injection e; omega), h.res.kept hG (by intro e; injection e; omega), h.own.kept hG (by rintro j ⟨⟩; exact h1), h.len, h.size, hR, only_trans h.grown hG, h1, h2⟩
theorem FSt.put (h : FSt w0 w g r N k a b c s A cap rs) (j : Nat) (v : Value) {k' a' b' c' : Int} {s' : ByteArray} {A' : Option Addr} {cap' : Nat} {rs' : List Rg} (hb : FBlk (w.setCell ⟨g, j, none⟩ v) g k' a' b' c' s' A' rs'.length cap') (ho : OwnRs w w0.heap.size A' cap' rs') (hl : rs'.length ≤ 40) (hs : s'.size ≤ 24) : FSt w0 (w.setCell ⟨g, j, none⟩ v) g r N k' a' b' c' s' A' cap' rs' := by
  have h1 := h.hr
  have h2 := h.hg
  have hG := set_grown w g j v
  refine ⟨hb, h.res.kept hG (by intro e; injection e; omega), World.ownsRow.kept ho hG (.inr (h.blk.row ho)), hl, hs, h.rd.grown hG (by rintro k ⟨⟩; omega), ?_, h1, h2⟩
  exact ⟨hG.os.trans h.grown.os, hG.tape.trans h.grown.tape, hG.output.trans h.grown.output, Nat.le_trans h.grown.size hG.size, fun i hi hne => (hG.block i (Nat.lt_of_lt_of_le hi h.grown.size) (fun e => by injection e; omega)).trans (h.grown.block i hi hne)⟩
theorem FSt.put0 (h : FSt w0 w g r N k a b c s A cap rs) (x : Int) : FSt w0 (w.setCell ⟨g, 0, none⟩ (.int .i64 x)) g r N x a b c s A cap rs := h.put 0 _ (h.blk.set0 x) h.own h.len h.size
theorem FSt.put1 (h : FSt w0 w g r N k a b c s A cap rs) (x : Int) : FSt w0 (w.setCell ⟨g, 1, none⟩ (.int .i64 x)) g r N k x b c s A cap rs := h.put 1 _ (h.blk.set1 x) h.own h.len h.size
theorem FSt.put2 (h : FSt w0 w g r N k a b c s A cap rs) (x : Int) : FSt w0 (w.setCell ⟨g, 2, none⟩ (.int .i64 x)) g r N k a x c s A cap rs := h.put 2 _ (h.blk.set2 x) h.own h.len h.size
theorem FSt.put3 (h : FSt w0 w g r N k a b c s A cap rs) (x : Int) : FSt w0 (w.setCell ⟨g, 3, none⟩ (.int .i64 x)) g r N k a b x s A cap rs := h.put 3 _ (h.blk.set3 x) h.own h.len h.size
theorem FSt.put4 (h : FSt w0 w g r N k a b c s A cap rs) (x : ByteArray) (hx : x.size ≤ 24) : FSt w0 (w.setCell ⟨g, 4, none⟩ (.string x)) g r N k a b c x A cap rs := h.put 4 _ (h.blk.set4 x) h.own h.len hx
theorem FSt.put5 (h : FSt w0 w g r N k a b c s A cap rs) {A' : Option Addr} {cap' : Nat} {rs' : List Rg} (ho : OwnRs w w0.heap.size A' cap' rs') (hl : rs'.length ≤ 40) : FSt w0 (w.setCell ⟨g, 5, none⟩ (.slice A' rs'.length cap')) g r N k a b c s A' cap' rs' := h.put 5 _ (h.blk.set5 A' rs'.length cap') ho hl h.size
theorem FSt.mono (h : FSt w0 w g r N k a b c s A cap rs) {N' : Nat} (hN : N ≤ N') : FSt w0 w g r N' k a b c s A cap rs := { h with rd := h.rd.mono hN }
end
theorem start_st {w w1 : World} {r N : Nat} (hrl : r < w.heap.size) (hR : Rd w1 r N) (hG : (w.alloc (.cells #[.int .i64 0, .int .i64 0, .int .i64 0, .int .i64 0, .string ⟨#[]⟩, .slice none 0 0] 25)).grownBy w1 (some r)) (k : Int) :
    FSt w ((w1.alloc (.cells #[] 53)).alloc (.cells #[.int .i64 k, .int .i64 0, .int .i64 0, .int .i64 0, .string ⟨#[]⟩, .slice (some ⟨w1.heap.size, 0, none⟩) 0 0] 25)) (w1.heap.size + 1) r N k 0 0 0 ⟨#[]⟩ (some ⟨w1.heap.size, 0, none⟩) 0 [] := by
  have hs := hG.size
  simp at hs
  have res0 : FBlk w1 w.heap.size 0 0 0 0 ⟨#[]⟩ none 0 0 := FBlk.kept (FBlk.new w 0 0 0 0 ⟨#[]⟩ none 0 0) hG (by intro e; injection e; omega)
  have b := FBlk.new (w1.alloc (.cells #[] 53)) k 0 0 0 ⟨#[]⟩ (some ⟨w1.heap.size, 0, none⟩) 0 0
  have e : (w1.alloc (.cells #[] 53)).heap.size = w1.heap.size + 1 := by simp
  rw [e] at b
  exact ⟨b, (res0.kept (World.grownBy_alloc w1 _ none) (by simp)).kept (World.grownBy_alloc _ _ none) (by simp), (OwnRs.empty w1 w.heap.size (by omega)).alloc _, by simp, by decide, (hR.alloc _).alloc _, only_alloc (only_alloc (only_of_alloc hG) _) _, hrl, by omega⟩
theorem fin_st {w0 w : World} {g r N : Nat} {k a b c : Int} {s : ByteArray} {A : Option Addr} {cap : Nat} {rs : List Rg} (h : FSt w0 w g r N k a b c s A cap rs) :
    FBlk ((((((w.setCell ⟨w0.heap.size, 0, none⟩ (.int .i64 k)).setCell ⟨w0.heap.size, 1, none⟩ (.int .i64 a)).setCell ⟨w0.heap.size, 2, none⟩ (.int .i64 b)).setCell ⟨w0.heap.size, 3, none⟩ (.int .i64 c)).setCell ⟨w0.heap.size, 4, none⟩ (.string s)).setCell ⟨w0.heap.size, 5, none⟩ (.slice A rs.length cap)) w0.heap.size k a b c s A rs.length cap ∧
    OwnRs ((((((w.setCell ⟨w0.heap.size, 0, none⟩ (.int .i64 k)).setCell ⟨w0.heap.size, 1, none⟩ (.int .i64 a)).setCell ⟨w0.heap.size, 2, none⟩ (.int .i64 b)).setCell ⟨w0.heap.size, 3, none⟩ (.int .i64 c)).setCell ⟨w0.heap.size, 4, none⟩ (.string s)).setCell ⟨w0.heap.size, 5, none⟩ (.slice A rs.length cap)) w0.heap.size A cap rs ∧
    Rd ((((((w.setCell ⟨w0.heap.size, 0, none⟩ (.int .i64 k)).setCell ⟨w0.heap.size, 1, none⟩ (.int .i64 a)).setCell ⟨w0.heap.size, 2, none⟩ (.int .i64 b)).setCell ⟨w0.heap.size, 3, none⟩ (.int .i64 c)).setCell ⟨w0.heap.size, 4, none⟩ (.string s)).setCell ⟨w0.heap.size, 5, none⟩ (.slice A rs.length cap)) r N ∧
    w0.grownBy ((((((w.setCell ⟨w0.heap.size, 0, none⟩ (.int .i64 k)).setCell ⟨w0.heap.size, 1, none⟩ (.int .i64 a)).setCell ⟨w0.heap.size, 2, none⟩ (.int .i64 b)).setCell ⟨w0.heap.size, 3, none⟩ (.int .i64 c)).setCell ⟨w0.heap.size, 4, none⟩ (.string s)).setCell ⟨w0.heap.size, 5, none⟩ (.slice A rs.length cap)) (some r) := by
  have hb := (((((h.res.set0 k).set1 a).set2 b).set3 c).set4 s).set5 A rs.length cap
  have hG : w.grownBy ((((((w.setCell ⟨w0.heap.size, 0, none⟩ (.int .i64 k)).setCell ⟨w0.heap.size, 1, none⟩ (.int .i64 a)).setCell ⟨w0.heap.size, 2, none⟩ (.int .i64 b)).setCell ⟨w0.heap.size, 3, none⟩ (.int .i64 c)).setCell ⟨w0.heap.size, 4, none⟩ (.string s)).setCell ⟨w0.heap.size, 5, none⟩ (.slice A rs.length cap)) (some w0.heap.size) :=
    only_trans (only_trans (only_trans (only_trans (only_trans (set_grown w _ 0 _) (set_grown _ _ 1 _)) (set_grown _ _ 2 _)) (set_grown _ _ 3 _)) (set_grown _ _ 4 _)) (set_grown _ _ 5 _)
  have h1 := h.hr
  exact ⟨hb, World.ownsRow.kept h.own hG (.inr (h.res.row h.own)), h.rd.grown hG (by rintro k ⟨⟩; exact h1), ⟨hG.os.trans h.grown.os, hG.tape.trans h.grown.tape, hG.output.trans h.grown.output, Nat.le_trans h.grown.size hG.size, fun i hi hne => (hG.block i (Nat.lt_of_lt_of_le hi h.grown.size) (fun e => by injection e; omega)).trans (h.grown.block i hi hne)⟩⟩
/-- A drawn frame, its ranges in memory of its own. -/
def DrewFr (w : World) (r N : Nat) (e : Ending) (w' : World) : Prop := ∃ (k a b c : Int) (s : ByteArray) (A : Option Addr) (cap : Nat) (rs : List Rg), e = .returned (.agg #[.int .i64 k, .int .i64 a, .int .i64 b, .int .i64 c, .string s, .slice A rs.length cap]) ∧ rs.length ≤ 40 ∧ s.size ≤ 24 ∧ OwnRs w' w.heap.size A cap rs ∧ Rd w' r N ∧ w.grownBy w' (some r)
set_option maxHeartbeats 3200000 in
set_option maxRecDepth 100000 in
theorem frame_any (w : World) (r N : Nat) (h : Rd w r N) (hN : N ≤ 10000000) : Calls Try.prog 30 #[.pointer (some ⟨r, 0, none⟩)] w (DrewFr w r (N + 500)) := by
  have hrl := h.lt
  have R0 := Lib.hid (h.alloc (.cells #[.int .i64 0, .int .i64 0, .int .i64 0, .int .i64 0, .string ⟨#[]⟩, .slice none 0 0] 25))
  clear h
  go_enter Try.func30, Try.ntmps30
  go_wp2_with fail
  refine (pick_any _ r N 11 R0.out (by omega) (by omega) (by omega)).mono ?_
  rintro e w1 ⟨kk, rfl, hk0, hk1, hR, hG⟩
  have S0 := Lib.hid (start_st hrl hR hG kk)
  have hz1 : w1.heap.size < w1.heap.size + 1 := by omega
  obtain ⟨x0, x1, x2, x3, x4, x5⟩ := S0.out.blk.cells
  clear hR hG R0
  go_upto_block 0 with fail
  go_cut [] from 10 (fun wx => ∃ (k a b c : Int) (s : ByteArray) (A : Option Addr) (cap : Nat) (rs : List Rg), Hid (FSt w wx (w1.heap.size + 1) r (N + 100) k a b c s A cap rs))
  case first =>
    have hcs : kk = 0 ∨ kk = 1 ∨ kk = 2 ∨ kk = 3 ∨ kk = 4 ∨ kk = 5 ∨ kk = 6 ∨ kk = 7 ∨ kk = 8 ∨ kk = 9 ∨ kk = 10 := by omega
    clear hk0 hk1 hz1 x0 x1 x2 x3 x4 x5
    rcases hcs with rfl | rfl | rfl | rfl | rfl | rfl | rfl | rfl | rfl | rfl | rfl
    · go_wp2_with fail
      go_meet
      exact ⟨_, _, _, _, _, _, _, _, S0.out.mono (show N + 1 ≤ N + 100 by omega)⟩
    · go_wp2_with fail
      go_meet
      exact ⟨_, _, _, _, _, _, _, _, S0.out.mono (show N + 1 ≤ N + 100 by omega)⟩
    · go_wp2_with fail
      refine (pick_any _ r (N + 1) 5 S0.out.rd (by omega) (by omega) (by omega)).mono ?_
      rintro e u101 ⟨mu101, rfl, hmu101a, hmu101b, hR, hG⟩
      have Tu101 := Lib.hid (S0.out.pick hG hR)
      clear hR hG
      obtain ⟨x0, x1, x2, x3, x4, x5⟩ := Tu101.out.blk.cells
      have fu101 := fun j => Tu101.out.blk.soft j
      have Pu101 := Lib.hid (Tu101.out.put1 mu101)
      go_wp2_with fail
      refine (set_any _ r (N + 1 + 1) Pu101.out.rd (by omega)).mono ?_
      rintro e u102 ⟨Au102, cu102, qu102, rfl, hlu102, hO, hR, hG⟩
      have Ou102 := Lib.hid (hO.mono Pu101.out.grown.size)
      have Tu102 := Lib.hid (Pu101.out.pick hG hR)
      clear hR hG hO
      obtain ⟨x0, x1, x2, x3, x4, x5⟩ := Tu102.out.blk.cells
      have fu102 := fun j => Tu102.out.blk.soft j
      have Pu102 := Lib.hid (Tu102.out.put5 Ou102.out (by omega))
      go_wp2_with fail
      go_meet
      exact ⟨_, _, _, _, _, _, _, _, Pu102.out.mono (show N + 1 + 1 + 30 ≤ N + 100 by omega)⟩
    · go_wp2_with fail
      refine (pick_any _ r (N + 1) 4 S0.out.rd (by omega) (by omega) (by omega)).mono ?_
      rintro e u101 ⟨mu101, rfl, hmu101a, hmu101b, hR, hG⟩
      have Tu101 := Lib.hid (S0.out.pick hG hR)
      clear hR hG
      obtain ⟨x0, x1, x2, x3, x4, x5⟩ := Tu101.out.blk.cells
      have fu101 := fun j => Tu101.out.blk.soft j
      have Pu101 := Lib.hid (Tu101.out.put1 mu101)
      go_wp2_with fail
      refine (pick_any _ r (N + 1 + 1) 32 Pu101.out.rd (by omega) (by omega) (by omega)).mono ?_
      rintro e u102 ⟨mu102, rfl, hmu102a, hmu102b, hR, hG⟩
      have Tu102 := Lib.hid (Pu101.out.pick hG hR)
      clear hR hG
      obtain ⟨x0, x1, x2, x3, x4, x5⟩ := Tu102.out.blk.cells
      have fu102 := fun j => Tu102.out.blk.soft j
      have Pu102 := Lib.hid (Tu102.out.put2 mu102)
      go_wp2_with fail
      refine (pick_any _ r (N + 1 + 1 + 1) 2 Pu102.out.rd (by omega) (by omega) (by omega)).mono ?_
      rintro e u103 ⟨mu103, rfl, hmu103a, hmu103b, hR, hG⟩
      have Tu103 := Lib.hid (Pu102.out.pick hG hR)
      clear hR hG
      obtain ⟨x0, x1, x2, x3, x4, x5⟩ := Tu103.out.blk.cells
      have fu103 := fun j => Tu103.out.blk.soft j
      have Pu103 := Lib.hid (Tu103.out.put3 mu103)
      go_wp2_with fail
      refine (data_any _ r (N + 1 + 1 + 1 + 1) Pu103.out.rd (by omega)).mono ?_
      rintro e u104 ⟨mu104, rfl, hmu104, hR, hG⟩
      have Tu104 := Lib.hid (Pu103.out.pick hG hR)
      clear hR hG
      obtain ⟨x0, x1, x2, x3, x4, x5⟩ := Tu104.out.blk.cells
      have fu104 := fun j => Tu104.out.blk.soft j
      have Pu104 := Lib.hid (Tu104.out.put4 mu104 (by omega))
      go_wp2_with fail
      go_meet
      exact ⟨_, _, _, _, _, _, _, _, Pu104.out.mono (show N + 1 + 1 + 1 + 1 + 1 ≤ N + 100 by omega)⟩
    · go_wp2_with fail
      refine (pick_any _ r (N + 1) 4 S0.out.rd (by omega) (by omega) (by omega)).mono ?_
      rintro e u101 ⟨mu101, rfl, hmu101a, hmu101b, hR, hG⟩
      have Tu101 := Lib.hid (S0.out.pick hG hR)
      clear hR hG
      obtain ⟨x0, x1, x2, x3, x4, x5⟩ := Tu101.out.blk.cells
      have fu101 := fun j => Tu101.out.blk.soft j
      have Pu101 := Lib.hid (Tu101.out.put1 mu101)
      go_wp2_with fail
      refine (pick_any _ r (N + 1 + 1) 32 Pu101.out.rd (by omega) (by omega) (by omega)).mono ?_
      rintro e u102 ⟨mu102, rfl, hmu102a, hmu102b, hR, hG⟩
      have Tu102 := Lib.hid (Pu101.out.pick hG hR)
      clear hR hG
      obtain ⟨x0, x1, x2, x3, x4, x5⟩ := Tu102.out.blk.cells
      have fu102 := fun j => Tu102.out.blk.soft j
      have Pu102 := Lib.hid (Tu102.out.put2 mu102)
      go_wp2_with fail
      go_meet
      exact ⟨_, _, _, _, _, _, _, _, Pu102.out.mono (show N + 1 + 1 + 1 ≤ N + 100 by omega)⟩
    · go_wp2_with fail
      refine (pick_any _ r (N + 1) 101 S0.out.rd (by omega) (by omega) (by omega)).mono ?_
      rintro e u101 ⟨mu101, rfl, hmu101a, hmu101b, hR, hG⟩
      have Tu101 := Lib.hid (S0.out.pick hG hR)
      clear hR hG
      go_wp2_with fail
      refine (pick_any _ r (N + 1 + 1) 100 Tu101.out.rd (by omega) (by omega) (by omega)).mono ?_
      rintro e u102 ⟨mu102, rfl, hmu102a, hmu102b, hR, hG⟩
      have Tu102 := Lib.hid (Tu101.out.pick hG hR)
      clear hR hG
      obtain ⟨x0, x1, x2, x3, x4, x5⟩ := Tu102.out.blk.cells
      have fu102 := fun j => Tu102.out.blk.soft j
      have Pu102 := Lib.hid (Tu102.out.put1 (100 * mu101 + mu102))
      go_wp2_with fail
      go_meet
      exact ⟨_, _, _, _, _, _, _, _, Pu102.out.mono (show N + 1 + 1 + 1 ≤ N + 100 by omega)⟩
    · go_wp2_with fail
      refine (pick_any _ r (N + 1) 101 S0.out.rd (by omega) (by omega) (by omega)).mono ?_
      rintro e u101 ⟨mu101, rfl, hmu101a, hmu101b, hR, hG⟩
      have Tu101 := Lib.hid (S0.out.pick hG hR)
      clear hR hG
      go_wp2_with fail
      refine (pick_any _ r (N + 1 + 1) 100 Tu101.out.rd (by omega) (by omega) (by omega)).mono ?_
      rintro e u102 ⟨mu102, rfl, hmu102a, hmu102b, hR, hG⟩
      have Tu102 := Lib.hid (Tu101.out.pick hG hR)
      clear hR hG
      obtain ⟨x0, x1, x2, x3, x4, x5⟩ := Tu102.out.blk.cells
      have fu102 := fun j => Tu102.out.blk.soft j
      have Pu102 := Lib.hid (Tu102.out.put1 (100 * mu101 + mu102))
      go_wp2_with fail
      go_meet
      exact ⟨_, _, _, _, _, _, _, _, Pu102.out.mono (show N + 1 + 1 + 1 ≤ N + 100 by omega)⟩
    · go_wp2_with fail
      refine (pick_any _ r (N + 1) 17 S0.out.rd (by omega) (by omega) (by omega)).mono ?_
      rintro e u101 ⟨mu101, rfl, hmu101a, hmu101b, hR, hG⟩
      have Tu101 := Lib.hid (S0.out.pick hG hR)
      clear hR hG
      obtain ⟨x0, x1, x2, x3, x4, x5⟩ := Tu101.out.blk.cells
      have fu101 := fun j => Tu101.out.blk.soft j
      have Pu101 := Lib.hid (Tu101.out.put1 mu101)
      go_wp2_with fail
      refine (pick_any _ r (N + 1 + 1) 101 Pu101.out.rd (by omega) (by omega) (by omega)).mono ?_
      rintro e u102 ⟨mu102, rfl, hmu102a, hmu102b, hR, hG⟩
      have Tu102 := Lib.hid (Pu101.out.pick hG hR)
      clear hR hG
      go_wp2_with fail
      refine (pick_any _ r (N + 1 + 1 + 1) 100 Tu102.out.rd (by omega) (by omega) (by omega)).mono ?_
      rintro e u103 ⟨mu103, rfl, hmu103a, hmu103b, hR, hG⟩
      have Tu103 := Lib.hid (Tu102.out.pick hG hR)
      clear hR hG
      obtain ⟨x0, x1, x2, x3, x4, x5⟩ := Tu103.out.blk.cells
      have fu103 := fun j => Tu103.out.blk.soft j
      have Pu103 := Lib.hid (Tu103.out.put2 (100 * mu102 + mu103))
      go_wp2_with fail
      go_meet
      exact ⟨_, _, _, _, _, _, _, _, Pu103.out.mono (show N + 1 + 1 + 1 + 1 ≤ N + 100 by omega)⟩
    · go_wp2_with fail
      refine (pick_any _ r (N + 1) 17 S0.out.rd (by omega) (by omega) (by omega)).mono ?_
      rintro e u101 ⟨mu101, rfl, hmu101a, hmu101b, hR, hG⟩
      have Tu101 := Lib.hid (S0.out.pick hG hR)
      clear hR hG
      obtain ⟨x0, x1, x2, x3, x4, x5⟩ := Tu101.out.blk.cells
      have fu101 := fun j => Tu101.out.blk.soft j
      have Pu101 := Lib.hid (Tu101.out.put1 mu101)
      go_wp2_with fail
      go_meet
      exact ⟨_, _, _, _, _, _, _, _, Pu101.out.mono (show N + 1 + 1 ≤ N + 100 by omega)⟩
    · go_wp2_with fail
      refine (data_any _ r (N + 1) S0.out.rd (by omega)).mono ?_
      rintro e u101 ⟨mu101, rfl, hmu101, hR, hG⟩
      have Tu101 := Lib.hid (S0.out.pick hG hR)
      clear hR hG
      obtain ⟨x0, x1, x2, x3, x4, x5⟩ := Tu101.out.blk.cells
      have fu101 := fun j => Tu101.out.blk.soft j
      have Pu101 := Lib.hid (Tu101.out.put4 mu101 (by omega))
      go_wp2_with fail
      go_meet
      exact ⟨_, _, _, _, _, _, _, _, Pu101.out.mono (show N + 1 + 1 ≤ N + 100 by omega)⟩
    · go_wp2_with fail
      refine (pick_any _ r (N + 1) 101 S0.out.rd (by omega) (by omega) (by omega)).mono ?_
      rintro e u101 ⟨mu101, rfl, hmu101a, hmu101b, hR, hG⟩
      have Tu101 := Lib.hid (S0.out.pick hG hR)
      clear hR hG
      obtain ⟨x0, x1, x2, x3, x4, x5⟩ := Tu101.out.blk.cells
      have fu101 := fun j => Tu101.out.blk.soft j
      have Pu101 := Lib.hid (Tu101.out.put1 mu101)
      go_wp2_with fail
      go_meet
      exact ⟨_, _, _, _, _, _, _, _, Pu101.out.mono (show N + 1 + 1 ≤ N + 100 by omega)⟩
  case rest =>
    clear S0 x0 x1 x2 x3 x4 x5 hz1
    obtain ⟨k, a, b, c, s, A, cap, rs, S1⟩ := hcut
    go_wp2_with fail
    refine (pick_any _ r (N + 100) 14 S1.out.rd (by omega) (by omega) (by omega)).mono ?_
    rintro e w3 ⟨t, rfl, ht0, ht1, hR, hG⟩
    have S2 := Lib.hid (S1.out.pick hG hR)
    clear hR hG S1
    go_upto_block 1 with fail
    go_cut [] from 79 (fun wx => ∃ (k a b c : Int) (s : ByteArray) (A : Option Addr) (cap : Nat) (rs : List Rg), Hid (FSt w wx (w1.heap.size + 1) r (N + 500) k a b c s A cap rs))
    case first =>
      by_cases t0 : t = 0
      · subst t0
        go_wp2_with fail
        refine (pick_any _ r (N + 100 + 1) 120 S2.out.rd (by omega) (by omega) (by omega)).mono ?_
        rintro e u101 ⟨mu101, rfl, hmu101a, hmu101b, hR, hG⟩
        have Tu101 := Lib.hid (S2.out.pick hG hR)
        clear hR hG
        obtain ⟨x0, x1, x2, x3, x4, x5⟩ := Tu101.out.blk.cells
        have fu101 := fun j => Tu101.out.blk.soft j
        have Pu101 := Lib.hid (Tu101.out.put1 (mu101 - 3))
        go_wp2_with fail
        go_meet
        exact ⟨_, _, _, _, _, _, _, _, Pu101.out.mono (show N + 100 + 1 + 1 ≤ N + 500 by omega)⟩
      · have e0 : (t == 0) = false := beq_eq_false_iff_ne.2 t0
        by_cases t1 : t = 1
        · subst t1
          go_wp2_with fail
          refine (pick_any _ r (N + 100 + 1) 120 S2.out.rd (by omega) (by omega) (by omega)).mono ?_
          rintro e u101 ⟨mu101, rfl, hmu101a, hmu101b, hR, hG⟩
          have Tu101 := Lib.hid (S2.out.pick hG hR)
          clear hR hG
          obtain ⟨x0, x1, x2, x3, x4, x5⟩ := Tu101.out.blk.cells
          have fu101 := fun j => Tu101.out.blk.soft j
          have Pu101 := Lib.hid (Tu101.out.put2 (mu101 - 3))
          go_wp2_with fail
          go_meet
          exact ⟨_, _, _, _, _, _, _, _, Pu101.out.mono (show N + 100 + 1 + 1 ≤ N + 500 by omega)⟩
        · have e1 : (t == 1) = false := beq_eq_false_iff_ne.2 t1
          by_cases t2 : t = 2
          · subst t2
            go_wp2_with fail
            refine (pick_any _ r (N + 100 + 1) 5 S2.out.rd (by omega) (by omega) (by omega)).mono ?_
            rintro e u101 ⟨mu101, rfl, hmu101a, hmu101b, hR, hG⟩
            have Tu101 := Lib.hid (S2.out.pick hG hR)
            clear hR hG
            obtain ⟨x0, x1, x2, x3, x4, x5⟩ := Tu101.out.blk.cells
            have fu101 := fun j => Tu101.out.blk.soft j
            have Pu101 := Lib.hid (Tu101.out.put3 (mu101 - 1))
            go_wp2_with fail
            go_meet
            exact ⟨_, _, _, _, _, _, _, _, Pu101.out.mono (show N + 100 + 1 + 1 ≤ N + 500 by omega)⟩
          · have e2 : (t == 2) = false := beq_eq_false_iff_ne.2 t2
            by_cases t3 : t = 3
            · subst t3
              go_wp2_with fail
              refine (data_any _ r (N + 100 + 1) S2.out.rd (by omega)).mono ?_
              rintro e u101 ⟨mu101, rfl, hmu101, hR, hG⟩
              have Tu101 := Lib.hid (S2.out.pick hG hR)
              clear hR hG
              go_wp2_with fail
              refine (data_any _ r (N + 100 + 1 + 1) Tu101.out.rd (by omega)).mono ?_
              rintro e u102 ⟨mu102, rfl, hmu102, hR, hG⟩
              have Tu102 := Lib.hid (Tu101.out.pick hG hR)
              clear hR hG
              have cat : ∀ W, (Op.stringOp .add mu101 mu102).run Try.prog W = .ok (.string (mu101 ++ mu102)) W := fun W => run_string_add_sum W _ _ (by omega)
              have hcs : (mu101 ++ mu102).size ≤ 24 := by rw [ByteArray.size_append]; omega
              obtain ⟨x0, x1, x2, x3, x4, x5⟩ := Tu102.out.blk.cells
              have fu102 := fun j => Tu102.out.blk.soft j
              have Pu102 := Lib.hid (Tu102.out.put4 (mu101 ++ mu102) hcs)
              go_wp2_with fail
              go_meet
              exact ⟨_, _, _, _, _, _, _, _, Pu102.out.mono (show N + 100 + 1 + 1 + 1 ≤ N + 500 by omega)⟩
            · have e3 : (t == 3) = false := beq_eq_false_iff_ne.2 t3
              by_cases t4 : t = 4
              · subst t4
                go_wp2_with fail
                refine (ranges_any _ r (N + 100 + 1) S2.out.rd (by omega)).mono ?_
                rintro e u101 ⟨Au101, cu101, qu101, rfl, hlu101, hO, hR, hG⟩
                have Ou101 := Lib.hid (hO.mono S2.out.grown.size)
                have Tu101 := Lib.hid (S2.out.pick hG hR)
                clear hR hG hO
                obtain ⟨x0, x1, x2, x3, x4, x5⟩ := Tu101.out.blk.cells
                have fu101 := fun j => Tu101.out.blk.soft j
                have Pu101 := Lib.hid (Tu101.out.put5 Ou101.out (by omega))
                go_wp2_with fail
                go_meet
                exact ⟨_, _, _, _, _, _, _, _, Pu101.out.mono (show N + 100 + 1 + 200 ≤ N + 500 by omega)⟩
              · have e4 : (t == 4) = false := beq_eq_false_iff_ne.2 t4
                by_cases t5 : t = 5
                · subst t5
                  go_wp2_with fail
                  refine (pick_any _ r (N + 100 + 1) 13 S2.out.rd (by omega) (by omega) (by omega)).mono ?_
                  rintro e u101 ⟨mu101, rfl, hmu101a, hmu101b, hR, hG⟩
                  have Tu101 := Lib.hid (S2.out.pick hG hR)
                  clear hR hG
                  obtain ⟨x0, x1, x2, x3, x4, x5⟩ := Tu101.out.blk.cells
                  have fu101 := fun j => Tu101.out.blk.soft j
                  have Pu101 := Lib.hid (Tu101.out.put0 mu101)
                  go_wp2_with fail
                  go_meet
                  exact ⟨_, _, _, _, _, _, _, _, Pu101.out.mono (show N + 100 + 1 + 1 ≤ N + 500 by omega)⟩
                · have e5 : (t == 5) = false := beq_eq_false_iff_ne.2 t5
                  clear t0 t1 t2 t3 t4 t5
                  go_wp2_with fail
                  go_meet
                  exact ⟨_, _, _, _, _, _, _, _, S2.out.mono (show N + 100 + 1 ≤ N + 500 by omega)⟩
    case rest =>
      clear S2
      obtain ⟨k, a, b, c, s, A, cap, rs, S3⟩ := hcut
      obtain ⟨x0, x1, x2, x3, x4, x5⟩ := S3.out.blk.cells
      obtain ⟨y0, y1, y2, y3, y4, y5⟩ := S3.out.res.cells
      have fr := fun j => S3.out.res.soft j
      have F := Lib.hid (fin_st S3.out)
      have hlen := S3.out.len
      have hsz := S3.out.size
      go_wp2_with fail
      obtain ⟨fb, fo, frd, fg⟩ := F.out
      obtain ⟨z0, z1, z2, z3, z4, z5⟩ := fb.cells
      refine bodyPost_ret (v := .agg #[.int .i64 k, .int .i64 a, .int .i64 b, .int .i64 c, .string s, .slice A rs.length cap]) (by simp [results, Try.results30, go_sem, z0, z1, z2, z3, z4, z5]) rfl ⟨k, a, b, c, s, A, cap, rs, rfl, hlen, hsz, fo, frd, fg⟩
end Go.Proofs.Ytibnjbbiagjnjaa
