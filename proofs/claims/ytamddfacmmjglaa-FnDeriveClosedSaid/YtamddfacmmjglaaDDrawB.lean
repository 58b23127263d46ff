/- The contract of the drawn boxes. No condition but that the reader has not been asked too often. -/
import Derived.Test.YtamddfacmmjglaaDDraw
import Derived.Test.YtamddfacmmjglaaIStep
import Derived.Deep.RegionLaw
namespace Go.Proofs.Ytamddfacmmjglaa
open Go.RowKit
set_option linter.unusedVariables false
/-- The variable that holds a box, in block bb. -/
def BBox (w : World) (bb : Nat) (key : Int) (A : Option Addr) (n c : Nat) : Prop := w.heap[bb]? = some (.cells #[.int .i64 key, .slice A n c] 37 (0, 0))
theorem BBox.lt {w : World} {bb : Nat} {key : Int} {A : Option Addr} {n c : Nat} (h : BBox w bb key A n c) : bb < w.heap.size := by
  rcases Nat.lt_or_ge bb w.heap.size with hlt | hge
  · exact hlt
  · unfold BBox at h; rw [Array.getElem?_eq_none hge] at h; cases h
theorem BBox.cells {w : World} {bb : Nat} {key : Int} {A : Option Addr} {n c : Nat} (h : BBox w bb key A n c) :
    w.cell? ⟨bb, 0, none⟩ = some (.int .i64 key) ∧ w.cell? ⟨bb, 1, none⟩ = some (.slice A n c) ∧ w.frozen? ⟨bb, 0, none⟩ = false ∧ w.frozen? ⟨bb, 1, none⟩ = false := by
  unfold BBox at h
  exact ⟨cell_of_row w bb 0 _ _ _ h, cell_of_row w bb 1 _ _ _ h, by simp [World.frozen?, h], by simp [World.frozen?, h]⟩
theorem BBox.new (w : World) (key : Int) (A : Option Addr) (n c bb : Nat) (hb : bb = w.heap.size) : BBox (w.alloc (.cells #[.int .i64 key, .slice A n c] 37)) bb key A n c := by
  subst hb; exact heap_alloc_new w _
theorem BBox.kept {w w' : World} {bb : Nat} {key : Int} {A : Option Addr} {n c : Nat} {row : Option Nat} (h : BBox w bb key A n c) (hg : w.grownBy w' row) (hr : row ≠ some bb) : BBox w' bb key A n c :=
  (hg.block bb h.lt (fun e => hr e.symm)).trans h
theorem BBox.stored {w : World} {bb : Nat} {key : Int} {A : Option Addr} {n c : Nat} (h : BBox w bb key A n c) (A' : Option Addr) (n' c' : Nat) : BBox (w.setCell ⟨bb, 1, none⟩ (.slice A' n' c')) bb key A' n' c' := by
  unfold BBox at h ⊢
  simp [World.setCell, Array.getElem?_modify, h]
theorem BBox.other {w : World} {bb : Nat} {key : Int} {A : Option Addr} {n c : Nat} (h : BBox w bb key A n c) {B : Nat} {Ai : Option Addr} {ci : Nat} {xs : List Int} (ho : OwnInts w B Ai ci xs) : (Value.slice Ai xs.length ci).ownBlock ≠ some bb := by
  intro e
  rcases ho.2 with ⟨h1, _⟩ | ⟨g, cap, cur, h1, _, hh, _⟩
  · rw [h1] at e; simp [Value.ownBlock] at e
  · rw [h1] at e
    simp only [Value.ownBlock, Option.some.injEq] at e
    unfold BBox at h
    rw [e, h] at hh
    injection hh with h1
    injection h1 with _ h2
    exact absurd h2 (by decide)
theorem set_grown (w : World) (bb j : Nat) (v : Value) : w.grownBy (w.setCell ⟨bb, j, none⟩ v) (some bb) :=
  ⟨rfl, rfl, rfl, by simp [World.setCell], fun k hk hne => Below.heap_setCell _ _ _ _ (fun e => hne (by rw [e]))⟩
theorem OwnInts.apart {w : World} {bb : Nat} {key : Int} {A : Option Addr} {n c : Nat} (hb : BBox w bb key A n c) {B : Nat} {Ai : Option Addr} {ci : Nat} {xs : List Int} (ho : OwnInts w B Ai ci xs) (v : Value) : OwnInts (w.setCell ⟨bb, 1, none⟩ v) B Ai ci xs :=
  World.ownsRow.kept ho (set_grown w bb 1 v) (.inr (hb.other ho))
theorem box_thru {w5 w6 w7 : World} {bb r B : Nat} {key : Int} {A : Option Addr} {c : Nat} {xs : List Int} {o : Obj} (X : BBox w5 bb key A xs.length c) (I : OwnInts w5 B A c xs) (hg : w5.grownBy w6 (some r)) (hr : r ≠ bb) (hB : r < B) (g : (w6.alloc o).grownBy w7 (Value.slice A xs.length c).ownBlock) : BBox w7 bb key A xs.length c := by
  have X6 := (X.kept hg (by intro e; injection e; omega)).kept (World.grownBy_alloc w6 o none) (by simp)
  have I6 : OwnInts (w6.alloc o) B A c xs := (I.kept hg (by rintro j ⟨⟩; exact hB)).alloc o
  exact X6.kept g (X6.other I6)
theorem box_one {w : World} {bb : Nat} {key : Int} {A : Option Addr} {n c : Nat} (X : BBox w bb key A n c) : w.cell? ⟨bb, 1, none⟩ = some (.slice A n c) ∧ w.frozen? ⟨bb, 1, none⟩ = false := ⟨X.cells.2.1, X.cells.2.2.2⟩
theorem box_alloc {w : World} {bb : Nat} {key : Int} {A : Option Addr} {n c : Nat} (X : BBox w bb key A n c) {o : Obj} : (w.alloc o).cell? ⟨bb, 1, none⟩ = some (.slice A n c) ∧ (w.alloc o).frozen? ⟨bb, 1, none⟩ = false := box_one (X.kept (World.grownBy_alloc w o none) (by simp))
theorem new_one (w0 : World) (key : Int) (A : Option Addr) (c b : Nat) (ins : List Int) (P : Option Addr → Nat → List Int → Prop) (hb : b = w0.heap.size) (hP : P A c ins) : NewBx (w0.alloc (.cells #[.int .i64 key, .slice A ins.length c] 37)) (some ⟨b, 0, none⟩) P [⟨key, ins⟩] := fun _ => by
  obtain ⟨c0, c1, _, _⟩ := (BBox.new w0 key A ins.length c b hb).cells
  refine ⟨b, 0, rfl, fun i hi => ?_⟩
  have : i = 0 := by simpa using hi
  subst this
  exact ⟨A, c, c0, c1, hP⟩
theorem wpList_append_bx {ops : Array Oper} {rest : List Oper} {o : Oper} {a : Act} {w0 : World} {Q : Exit → Act → World → Prop} (hw : Region.wanted o (yielded ops a.tmps) = true) (s x : Operand)
    (ho : o.op = .call { callee := .builtin .append, args := #[s, x], argTypes := #[25, 25] })
    (B : Nat) (A : Option Addr) (c : Nat) (bs : List Bx) (hs : a.eval s = .slice A bs.length c) (hown : OwnBx w0 B A c bs)
    (b : Nat) (key : Int) (Ai : Option Addr) (ci n : Nat) (ins : List Int) (hn : n = ins.length) (hx : a.eval x = .slice (some ⟨b, 0, none⟩) 1 1) (hb : b = w0.heap.size) (hI : OwnInts w0 B Ai ci ins) (hl : bs.length ≤ 1000000) (hB : B ≤ w0.heap.size)
    (h : ∀ A' c' w' qs, Hid (qs = bs ++ [⟨key, ins⟩]) → Hid (qs.length = bs.length + 1) → Hid (OwnBx w' B A' c' qs) → Hid (Below B w0 w') → Hid ((w0.alloc (.cells #[.int .i64 key, .slice Ai n ci] 37)).grownBy w' (Value.slice A bs.length c).ownBlock) → wpList Try.prog ops Q rest (a.put o.dst (.slice A' qs.length c')) w') :
    wpList Try.prog ops Q (o :: rest) a (w0.alloc (.cells #[.int .i64 key, .slice Ai n ci] 37)) :=
  wpList_step fun K hK => by
    simp only [hw, if_true]
    subst hn
    have hB1 : Below B w0 (w0.alloc (.cells #[.int .i64 key, .slice Ai ins.length ci] 37)) := (Below.refl B w0).alloc hB _
    exact wp_append_own_bx s x ho B A c bs hs (hown.alloc _) _ 1 ⟨key, ins⟩ hx (new_one w0 key Ai ci b ins _ hb (hI.alloc _)) hl (Nat.le_trans hB hB1.size) fun A' c' w' qs h1 h2 h3 h4 h5 => hK _ _ (h A' c' w' qs h1 h2 h3 (hB1.trans h4) h5)
theorem own_bfrom {w : World} {B : Nat} {A : Option Addr} {c : Nat} {bs : List Bx} (h : OwnBx w B A c bs) : ∀ k, (Value.slice A bs.length c).ownBlock = some k → B ≤ k := fun k hk => by
  obtain ⟨V, hV, _⟩ := h
  exact (World.ownsRow.lt hV k hk).1
def DrewBx (w : World) (r N : Nat) (e : Ending) (w' : World) : Prop := ∃ A c bs, e = .returned (.slice A bs.length c) ∧ bs.length ≤ 10 ∧ (∀ b ∈ bs, b.ins.length ≤ 10) ∧ OwnBx w' w.heap.size A c bs ∧ Rd w' r N ∧ w.grownBy w' (some r)
theorem all_small {bs qs : List Bx} {t : Bx} (h : ∀ b ∈ bs, b.ins.length ≤ 10) (hq : qs = bs ++ [t]) (ht : t.ins.length ≤ 10) : ∀ b ∈ qs, b.ins.length ≤ 10 := by
  intro b hb
  rw [hq, List.mem_append, List.mem_singleton] at hb
  rcases hb with hb | rfl
  · exact h b hb
  · exact ht
set_option maxHeartbeats 1600000 in
theorem boxes_any (w : World) (r N : Nat) (h : Rd w r N) (hN : N ≤ 100000000) : Calls Try.prog 28 #[.pointer (some ⟨r, 0, none⟩)] w (DrewBx w r (N + 300)) := by
  have hrl := h.lt
  have R0 := Lib.hid (h.alloc (.cells #[] 37))
  have O0 := Lib.hid (OwnBx.empty w w.heap.size (Nat.le_refl _))
  have G0 := Lib.hid (World.grownBy_alloc w (.cells #[] 37) (some r))
  clear h
  go_enter Try.func28, Try.ntmps28
  go_wp2_with fail
  go_loopw [3, 4] (fun o i wr => ∃ (k : Nat) (A : Option Addr) (c : Nat) (bs : List Bx), k ≤ 8 ∧ i = .int .i64 k ∧ o = .slice A bs.length c ∧ bs.length ≤ k ∧ Hid (∀ b ∈ bs, b.ins.length ≤ 10) ∧ Hid (OwnBx wr w.heap.size A c bs) ∧ Hid (Rd wr r (N + 20 * k)) ∧ Hid (w.grownBy wr (some r))) (fun _ i _ => 9 - (intOf i).toNat)
  case atStart => exact ⟨0, _, 0, [], by omega, rfl, rfl, by simp, by simp [Hid], O0.out, R0.out, G0.out⟩
  case round =>
    clear O0 R0 G0
    obtain ⟨k, A, c, bs, hk, rfl, rfl, hl, hS, hO, hR, hG⟩ := hrel
    go_wp2_with fail
    refine (pick_any _ r (N + 20 * k) 9 hR.out (by omega) (by omega) (by omega)).mono ?_
    rintro e w2 ⟨t, rfl, ht0, ht1, hR2, hG2⟩
    have O2 := Lib.hid (hO.out.kept hG2 (by rintro j ⟨⟩; exact hrl))
    have R2 := Lib.hid hR2
    have G2 := Lib.hid (only_trans hG.out hG2)
    clear hR2 hG2 hO hR hG
    by_cases hlt : (k : Int) < t
    · go_wp2_with fail
      refine (atom_any _ r (N + 20 * k + 1) R2.out (by omega)).mono ?_
      rintro e w3 ⟨key, rfl, hn0, hn1, hR3, hG3⟩
      have O3 := Lib.hid (O2.out.kept hG3 (by rintro j ⟨⟩; exact hrl))
      have G3 := Lib.hid (only_trans G2.out hG3)
      have hr3 := hR3.lt
      have R4 := Lib.hid ((hR3.alloc (.cells #[] 3)).alloc (.cells #[.int .i64 key, .slice (some ⟨w3.heap.size, 0, none⟩) 0 0] 37))
      have I4 := Lib.hid ((OwnInts.empty w3 w3.heap.size (Nat.le_refl _)).alloc (.cells #[.int .i64 key, .slice (some ⟨w3.heap.size, 0, none⟩) 0 0] 37))
      have P4 := Lib.hid (only_alloc (World.grownBy_alloc w3 (.cells #[] 3) (some r)) (.cells #[.int .i64 key, .slice (some ⟨w3.heap.size, 0, none⟩) 0 0] 37))
      have X4 := Lib.hid (BBox.new (w3.alloc (.cells #[] 3)) key (some ⟨w3.heap.size, 0, none⟩) 0 0 (w3.heap.size + 1) (by simp))
      clear hR3 hG3 R2 G2 O2
      go_wp2_with fail
      go_loopw [6] (fun i wr => ∃ (j : Nat) (A : Option Addr) (c : Nat) (xs : List Int), j ≤ 3 ∧ i = .int .i64 j ∧ xs.length ≤ j ∧ Hid (BBox wr (w3.heap.size + 1) key A xs.length c) ∧ Hid (OwnInts wr w3.heap.size A c xs) ∧ Hid (Rd wr r (N + 20 * k + 3 + 3 * j)) ∧ Hid (w3.grownBy wr (some r))) (fun i _ => 4 - (intOf i).toNat)
      case atStart => exact ⟨0, _, 0, [], by omega, rfl, by simp, X4.out, I4.out, R4.out, P4.out⟩
      case round =>
        clear R4 I4 P4 X4
        obtain ⟨j, Ai, ci, xs, hj, rfl, hlj, hX, hI, hR, hP⟩ := hrel
        go_wp2_with fail
        refine (pick_any _ r (N + 20 * k + 3 + 3 * j) 3 hR.out (by omega) (by omega) (by omega)).mono ?_
        rintro e w5 ⟨t2, rfl, hu0, hu1, hR5, hG5⟩
        have X5 := Lib.hid (hX.out.kept hG5 (by intro e; injection e; omega))
        have I5 := Lib.hid (hI.out.kept hG5 (by rintro j ⟨⟩; exact hr3))
        have R5 := Lib.hid hR5
        have P5 := Lib.hid (only_trans hP.out hG5)
        clear hR5 hG5 hX hI hR hP
        by_cases hlt2 : (j : Int) < 1 + t2
        · obtain ⟨c0, c1, f0, f1⟩ := X5.out.cells
          have HAT := Lib.hid (fun W (hW : Below w5.heap.size w5 W) => (atom_any W r (N + 20 * k + 3 + 3 * j + 1) (R5.out.below hW) (by omega)).mono (R' := fun e w' => ∃ y : Int, e = .returned (.int .i64 y) ∧ Rd w' r (N + 20 * k + 3 + 3 * j + 1 + 2) ∧ w5.grownBy w' (some r)) (fun e w' ⟨y, he, _, _, h1, h2⟩ => ⟨y, he, h1, only_trans (row := some r) ⟨hW.os, hW.tape, hW.output, hW.size, fun i hi _ => hW.block i hi⟩ h2⟩))
          go_wp2_with fail
          go_region_law ((first | (go_simp; go_at_call 39; refine (HAT.out _ (by first | exact Below.refl _ _ | exact (Below.refl _ _).drew)).mono ?_; rintro e w6 ⟨y, rfl, hR6, hG6⟩; obtain ⟨d1, e1⟩ := box_one (X5.out.kept hG6 (by intro e; injection e; omega)); have d3 := fun o => (box_alloc (o := o) (X5.out.kept hG6 (by intro e; injection e; omega))).1; dsimp only) | (refine step_append_new [y] (by rfl) _ _ (by rfl) w3.heap.size Ai ci xs (by rfl) (I5.out.kept hG6 (by rintro j ⟨⟩; exact hr3)) _ 1 (by rfl) (by first | rfl | simp) (by rfl) (by omega) (by omega) (Nat.le_trans P5.out.size hG6.size) ?_; intro A7 c7 w7 qs hqs hql O7 B7 G7; have X7 := Lib.hid (box_thru X5.out I5.out hG6 (by omega) hr3 G7.out); obtain ⟨d2, e2⟩ := box_one X7.out)))
          all_goals
            have hob := Lib.hid (own_from (I5.out.kept hG6 (by rintro j ⟨⟩; exact hr3)))
            have X8 := Lib.hid (X7.out.stored A7 qs.length c7)
            have I8 := Lib.hid (OwnInts.apart X7.out O7.out (.slice A7 qs.length c7))
            have R8 := Lib.hid ((((hR6.alloc (.cells #[.int .i64 y] 3)).grown G7.out (fun g hg => by have := hob.out g hg; omega)).grown (set_grown w7 (w3.heap.size + 1) 1 (.slice A7 qs.length c7)) (fun g hg => by injection hg; omega)).mono (show N + 20 * k + 3 + 3 * j + 1 + 2 ≤ N + 20 * k + 3 + 3 * (j + 1) by omega))
            have P8 := Lib.hid (only_far (only_far (only_alloc (only_trans P5.out hG6) (.cells #[.int .i64 y] 3)) G7.out hob.out) (set_grown w7 (w3.heap.size + 1) 1 (.slice A7 qs.length c7)) (fun g hg => by injection hg; omega))
            clear hR6 hG6 d1 d2 d3 e1 e2
            go_wp2_with fail
            go_roundw
            case rel => exact ⟨j + 1, A7, c7, qs, by omega, by go_num, by rw [hql.out]; omega, X8.out, I8.out, R8.out, P8.out⟩
            case measure => simp [intOf]; omega
        · obtain ⟨c0, c1, f0, f1⟩ := X5.out.cells
          have O5 := Lib.hid (O3.out.kept P5.out (by rintro j ⟨⟩; exact hrl))
          have J5 := Lib.hid (I5.out.mono G3.out.size)
          have G5 := Lib.hid (only_trans G3.out P5.out)
          have hob := Lib.hid (own_bfrom O5.out)
          go_wp2_with (at_builtin; refine wpList_append_bx (by rfl) (.tmp 32) (.tmp 34) (by rfl) w.heap.size A c bs (by rfl) O5.out _ key Ai ci xs.length xs (by rfl) (by rfl) (by rfl) J5.out (by omega) G5.out.size ?_; intro A' c' w' qs hqs hql O6 B6 g6)
          have R6 := Lib.hid (((R5.out.alloc _).grown g6.out (fun g hg => by have := hob.out g hg; omega)).mono (show N + 20 * k + 3 + 3 * j + 1 ≤ N + 20 * (k + 1) by omega))
          have G6 := Lib.hid (only_far (only_alloc G5.out _) g6.out hob.out)
          have S6 := Lib.hid (all_small hS.out hqs.out (show xs.length ≤ 10 by omega))
          clear c0 c1 f0 f1
          go_wp2_with fail
          go_roundw
          case rel => exact ⟨k + 1, A', c', qs, by omega, by go_num, rfl, by rw [hql.out]; omega, S6.out, O6.out, R6.out, G6.out⟩
          case measure => simp [intOf]; omega
    · go_wp2_with fail
      refine (pick_any _ r (N + 20 * k + 1) 12 R2.out (by omega) (by omega) (by omega)).mono ?_
      rintro e w3 ⟨u, rfl, hu0, hu1, hR3, hG3⟩
      have O3 := Lib.hid (O2.out.kept hG3 (by rintro j ⟨⟩; exact hrl))
      have R3 := Lib.hid hR3
      have G3 := Lib.hid (only_trans G2.out hG3)
      clear hR3 hG3 O2 R2 G2
      by_cases hu : u = 0
      · subst hu
        go_wp2_with fail
        refine (pick_any _ r (N + 20 * k + 1 + 1) 5 R3.out (by omega) (by omega) (by omega)).mono ?_
        rintro e w4 ⟨y, rfl, hy0, hy1, hR4, hG4⟩
        have O4 := Lib.hid (O3.out.kept hG4 (by rintro j ⟨⟩; exact hrl))
        have R4 := Lib.hid hR4
        have G4 := Lib.hid (only_trans G3.out hG4)
        clear hR4 hG4 O3 R3 G3
        go_wp2_with fail
        refine (pick_any _ r (N + 20 * k + 1 + 1 + 1) 6 R4.out (by omega) (by omega) (by omega)).mono ?_
        rintro e w5 ⟨v, rfl, hv0, hv1, hR5, hG5⟩
        obtain ⟨n, rfl⟩ : ∃ n : Nat, v = n := ⟨v.toNat, by omega⟩
        have hmk := fun W => make_ints n (by omega) W
        have hzs := own_zero w5 (List.replicate n 0) (by simp; omega)
        rw [List.length_replicate] at hzs
        have e0 : copied 0 (List.replicate n (0 : Int)) = List.replicate n 0 := by unfold copied; simp
        rw [e0] at hzs
        have O5 := Lib.hid ((O4.out.kept hG5 (by rintro j ⟨⟩; exact hrl)).alloc (.cells (zeroRow n) 3))
        have R5 := Lib.hid (hR5.alloc (.cells (zeroRow n) 3))
        have G5 := Lib.hid (only_alloc (only_trans G4.out hG5) (.cells (zeroRow n) 3))
        have I5 := Lib.hid (hzs.mono (only_trans G4.out hG5).size)
        have hob := Lib.hid (own_bfrom O5.out)
        clear hR5 hG5 O4 R4 G4 hzs e0
        generalize zeroRow n = zs at hmk O5 R5 G5 I5
        go_wp2_with (at_builtin; refine wpList_append_bx (by rfl) (.tmp 39) (.tmp 47) (by rfl) w.heap.size A c bs (by rfl) O5.out _ (1 + y) (some ⟨w5.heap.size, 0, none⟩) n n (List.replicate n 0) (by simp) (by rfl) (by first | rfl | simp) I5.out (by omega) G5.out.size ?_; intro A' c' w' qs hqs hql O6 B6 g6)
        have R6 := Lib.hid (((R5.out.alloc _).grown g6.out (fun g hg => by have := hob.out g hg; omega)).mono (show N + 20 * k + 1 + 1 + 1 + 1 ≤ N + 300 by omega))
        have G6 := Lib.hid (only_far (only_alloc G5.out _) g6.out hob.out)
        have S6 := Lib.hid (all_small hS.out hqs.out (show (List.replicate n (0 : Int)).length ≤ 10 by simp; omega))
        have D := Lib.hid (show DrewBx w r (N + 300) (.returned (.slice A' qs.length c')) w' from ⟨A', c', qs, rfl, by rw [hql.out]; omega, S6.out, O6.out, R6.out, G6.out⟩)
        go_wp2_with fail
        go_ret
        exact D.out
      · have D := Lib.hid (show DrewBx w r (N + 300) (.returned (.slice A bs.length c)) w3 from ⟨A, c, bs, rfl, by omega, hS.out, O3.out, R3.out.mono (by omega), G3.out⟩)
        go_wp2_with fail
        go_ret
        exact D.out
end Go.Proofs.Ytamddfacmmjglaa
