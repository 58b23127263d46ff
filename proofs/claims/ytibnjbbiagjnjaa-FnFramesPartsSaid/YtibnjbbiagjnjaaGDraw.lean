/- Contracts of the drawn lists of frames. No condition but that the reader has not been asked too often. -/
import Derived.Test.YtibnjbbiagjnjaaGOwn
namespace Go.Proofs.Ytibnjbbiagjnjaa
open Go.RowKit
set_option linter.unusedVariables false
set_option maxHeartbeats 800000 in
theorem good_any (w : World) (r N : Nat) (h : Rd w r N) (hN : N ≤ 1000000) : Calls Try.prog 55 #[.pointer (some ⟨r, 0, none⟩)] w (DrewFr w r (N + 500)) := by
  have hrl := h.lt
  have R0 := Lib.hid (h.alloc (.cells #[.int .i64 0, .int .i64 0, .int .i64 0, .int .i64 0, .string ⟨#[]⟩, .slice none 0 0] 25))
  have X0 := Lib.hid (FBlk.new w 0 0 0 0 ⟨#[]⟩ none 0 0)
  have G0 := Lib.hid (World.grownBy_alloc w (.cells #[.int .i64 0, .int .i64 0, .int .i64 0, .int .i64 0, .string ⟨#[]⟩, .slice none 0 0] 25) (some r))
  clear h
  go_enter Try.func55, Try.ntmps55
  go_wp2_with fail
  refine (frame_any _ r N R0.out (by omega)).mono ?_
  rintro e w1 ⟨k, a, b, c, s, A, cap, rs, rfl, hl, hs, hO, hR, hG⟩
  have hG1 := only_trans G0.out hG
  have hz1 : w.heap.size < w1.heap.size := by have := hG.size; simp at this; omega
  have X1 := Lib.hid ((X0.out.kept hG (by intro e; injection e; omega)).kept (World.grownBy_alloc w1 (.cells #[.int .i64 k, .int .i64 a, .int .i64 b, .int .i64 c, .string s, .slice A rs.length cap] 25) none) (by simp))
  have O1 := Lib.hid ((hO.mono G0.out.size).alloc (.cells #[.int .i64 k, .int .i64 a, .int .i64 b, .int .i64 c, .string s, .slice A rs.length cap] 25))
  have F1 := Lib.hid (FBlk.new w1 k a b c s A rs.length cap)
  have R1 := Lib.hid (hR.alloc (.cells #[.int .i64 k, .int .i64 a, .int .i64 b, .int .i64 c, .string s, .slice A rs.length cap] 25))
  have G1 := Lib.hid (only_alloc hG1 (.cells #[.int .i64 k, .int .i64 a, .int .i64 b, .int .i64 c, .string s, .slice A rs.length cap] 25))
  have hza : w1.heap.size < (w1.alloc (.cells #[.int .i64 k, .int .i64 a, .int .i64 b, .int .i64 c, .string s, .slice A rs.length cap] 25)).heap.size := by simp
  obtain ⟨q, HQ⟩ : ∃ q, Hid (fvalid ⟨k, a, b, c, s.data.toList, rs⟩ = q) := ⟨_, rfl⟩
  clear hO hR hG hG1 R0 X0 G0
  go_wp2_with fail
  refine (sfv_any k a b c s _ rs A cap _ O1.out.in_ (Nat.le_refl _) (by omega) (by omega) q HQ.out).mono ?_
  rintro e w2 ⟨rfl, hB⟩
  have X2 := Lib.hid (X1.out.below hB (Nat.lt_trans hz1 hza))
  have F2 := Lib.hid (F1.out.below hB hza)
  have O2 := Lib.hid (O1.out.below hB)
  have R2 := Lib.hid (R1.out.below hB)
  have G2 := Lib.hid (only_trans G1.out (row := some r) ⟨hB.os, hB.tape, hB.output, hB.size, fun i hi _ => hB.block i hi⟩)
  have hz2 : w.heap.size ≤ w2.heap.size := G2.out.size
  clear hB X1 F1 O1 R1 G1 hza
  have fin : ∀ (W : World) (k a b c : Int) (s : ByteArray) (A : Option Addr) (cap : Nat) (rs : List Rg) (n : Nat), rs.length = n → FBlk W w.heap.size 0 0 0 0 ⟨#[]⟩ none 0 0 → OwnRs W w.heap.size A cap rs → Rd W r (N + 500) → w.grownBy W (some r) → rs.length ≤ 40 → s.size ≤ 24 →
      FBlk ((((((W.setCell ⟨w.heap.size, 0, none⟩ (.int .i64 k)).setCell ⟨w.heap.size, 1, none⟩ (.int .i64 a)).setCell ⟨w.heap.size, 2, none⟩ (.int .i64 b)).setCell ⟨w.heap.size, 3, none⟩ (.int .i64 c)).setCell ⟨w.heap.size, 4, none⟩ (.string s)).setCell ⟨w.heap.size, 5, none⟩ (.slice A n cap)) w.heap.size k a b c s A n cap ∧
      DrewFr w r (N + 500) (.returned (.agg #[.int .i64 k, .int .i64 a, .int .i64 b, .int .i64 c, .string s, .slice A n cap])) ((((((W.setCell ⟨w.heap.size, 0, none⟩ (.int .i64 k)).setCell ⟨w.heap.size, 1, none⟩ (.int .i64 a)).setCell ⟨w.heap.size, 2, none⟩ (.int .i64 b)).setCell ⟨w.heap.size, 3, none⟩ (.int .i64 c)).setCell ⟨w.heap.size, 4, none⟩ (.string s)).setCell ⟨w.heap.size, 5, none⟩ (.slice A n cap)) := by
    intro W k a b c s A cap rs n hn hX hO hR hG hl hs
    subst hn
    obtain ⟨fb, fg⟩ := fin_cells hX k a b c s A rs.length cap
    exact ⟨fb, k, a, b, c, s, A, cap, rs, rfl, hl, hs, hO.keep fg (hX.row hO), hR.grown fg (by rintro k ⟨⟩; exact hrl), only_far hG fg (by rintro g ⟨⟩; exact Nat.le_refl _)⟩
  have FIN := Lib.hid fin
  clear fin
  obtain ⟨y0, y1, y2, y3, y4, y5⟩ := X2.out.cells
  have fr := fun j => X2.out.soft j
  cases q with
  | false =>
    have X3 := Lib.hid (X2.out.kept (World.grownBy_alloc w2 (.cells #[] 53) none) (by simp))
    obtain ⟨fb, fd⟩ := FIN.out (w2.alloc (.cells #[] 53)) 1 0 0 0 ⟨#[]⟩ (some ⟨w2.heap.size, 0, none⟩) 0 [] 0 rfl X3.out (OwnRs.empty w2 w.heap.size hz2) ((R2.out.alloc _).mono (by omega)) (only_alloc G2.out _) (by simp) (by decide)
    have FB := Lib.hid fb
    have FD := Lib.hid fd
    obtain ⟨u0, u1, u2, u3, u4, u5⟩ := X3.out.cells
    have fr3 := fun j => X3.out.soft j
    clear fb fd y0 y1 y2 y3 y4 y5 fr
    go_wp2_with fail
    obtain ⟨z0, z1, z2, z3, z4, z5⟩ := FB.out.cells
    exact bodyPost_ret (v := .agg #[.int .i64 1, .int .i64 0, .int .i64 0, .int .i64 0, .string ⟨#[]⟩, .slice (some ⟨w2.heap.size, 0, none⟩) 0 0]) (by simp [results, Try.results55, go_sem, z0, z1, z2, z3, z4, z5]) rfl FD.out
  | true =>
    obtain ⟨fb, fd⟩ := FIN.out w2 k a b c s A cap rs rs.length rfl X2.out O2.out (R2.out.mono (by omega)) G2.out hl hs
    have FB := Lib.hid fb
    have FD := Lib.hid fd
    obtain ⟨x0, x1, x2, x3, x4, x5⟩ := F2.out.cells
    clear fb fd
    go_wp2_with fail
    obtain ⟨z0, z1, z2, z3, z4, z5⟩ := FB.out.cells
    exact bodyPost_ret (v := .agg #[.int .i64 k, .int .i64 a, .int .i64 b, .int .i64 c, .string s, .slice A rs.length cap]) (by simp [results, Try.results55, go_sem, z0, z1, z2, z3, z4, z5]) rfl FD.out
def DrewFs (w : World) (r N : Nat) (e : Ending) (w' : World) : Prop := ∃ A c fs, e = .returned (.slice A fs.length c) ∧ fs.length ≤ 10 ∧ (∀ v ∈ fs, (v : Fv).rs.length ≤ 40 ∧ v.s.size ≤ 24) ∧ OwnFs w' w.heap.size A c fs ∧ Rd w' r N ∧ w.grownBy w' (some r)
theorem all_fine {fs qs : List Fv} {t : Fv} (h : ∀ v ∈ fs, v.rs.length ≤ 40 ∧ v.s.size ≤ 24) (hq : qs = fs ++ [t]) (ht : t.rs.length ≤ 40 ∧ t.s.size ≤ 24) : ∀ v ∈ qs, v.rs.length ≤ 40 ∧ v.s.size ≤ 24 := by
  intro v hv
  rw [hq, List.mem_append, List.mem_singleton] at hv
  rcases hv with hv | rfl
  · exact h v hv
  · exact ht
set_option maxHeartbeats 1600000 in
theorem frames_any (w : World) (r N : Nat) (h : Rd w r N) (hN : N ≤ 100000) : Calls Try.prog 40 #[.pointer (some ⟨r, 0, none⟩)] w (DrewFs w r (N + 5000)) := by
  have hrl := h.lt
  have R0 := Lib.hid (h.alloc (.cells #[] 25))
  have O0 := Lib.hid (OwnFs.empty w w.heap.size (Nat.le_refl _))
  have G0 := Lib.hid (World.grownBy_alloc w (.cells #[] 25) (some r))
  clear h
  go_enter Try.func40, Try.ntmps40
  go_wp2_with fail
  go_loopw [3, 4] (fun o i wr => ∃ (j : Nat) (A : Option Addr) (c : Nat) (fs : List Fv), j ≤ 4 ∧ i = .int .i64 j ∧ o = .slice A fs.length c ∧ fs.length ≤ j ∧ Hid (∀ v ∈ fs, v.rs.length ≤ 40 ∧ v.s.size ≤ 24) ∧ Hid (OwnFs wr w.heap.size A c fs) ∧ Hid (Rd wr r (N + 600 * j)) ∧ Hid (w.grownBy wr (some r))) (fun _ i _ => 5 - (intOf i).toNat)
  case atStart => exact ⟨0, _, 0, [], by omega, rfl, rfl, by simp, by simp [Hid], O0.out, R0.out, G0.out⟩
  case round =>
    clear O0 R0 G0
    obtain ⟨j, A, c, fs, hj, rfl, rfl, hl, hS, hO, hR, hG⟩ := hrel
    go_wp2_with fail
    refine (pick_any _ r (N + 600 * j) 5 hR.out (by omega) (by omega) (by omega)).mono ?_
    rintro e w2 ⟨t, rfl, ht0, ht1, hR2, hG2⟩
    have O2 := Lib.hid (hO.out.kept hG2 (by rintro j ⟨⟩; exact hrl))
    have R2 := Lib.hid hR2
    have G2 := Lib.hid (only_trans hG.out hG2)
    clear hR2 hG2 hO hR hG
    by_cases hlt : (j : Int) < t
    · go_wp2_with fail
      refine (good_any _ r (N + 600 * j + 1) R2.out (by omega)).mono ?_
      rintro e w3 ⟨k1, k2, k3, k4, s, Ai, ci, rs, rfl, hrs, hss, hI, hR3, hG3⟩
      have O3 := Lib.hid (O2.out.kept hG3 (by rintro j ⟨⟩; exact hrl))
      have I3 := Lib.hid (hI.mono G2.out.size)
      have G3 := Lib.hid (only_trans G2.out hG3)
      have R3 := Lib.hid hR3
      have hob := Lib.hid (own_ffrom O3.out)
      clear hR3 hG3 hI O2 R2 G2
      go_wp2_with (at_builtin; refine wpList_append_frm (by rfl) (.tmp 12) (.tmp 15) (by rfl) w.heap.size A c fs (by rfl) O3.out _ k1 k2 k3 k4 s Ai ci rs (by rfl) (by rfl) I3.out (by omega) G3.out.size ?_; intro A' c' w' qs hqs hql O6 B6 g6)
      have R6 := Lib.hid (((R3.out.alloc _).grown g6.out (fun g hg => by have := hob.out g hg; omega)).mono (show N + 600 * j + 1 + 500 ≤ N + 600 * (j + 1) by omega))
      have G6 := Lib.hid (only_far (only_alloc G3.out _) g6.out hob.out)
      have S6 := Lib.hid (all_fine hS.out hqs.out ⟨hrs, hss⟩)
      go_wp2_with fail
      go_roundw
      case rel => exact ⟨j + 1, A', c', qs, by omega, by go_num, rfl, by rw [hql.out]; omega, S6.out, O6.out, R6.out, G6.out⟩
      case measure => simp [intOf]; omega
    · go_wp2_with fail
      refine (pick_any _ r (N + 600 * j + 1) 8 R2.out (by omega) (by omega) (by omega)).mono ?_
      rintro e w3 ⟨u, rfl, hu0, hu1, hR3, hG3⟩
      have O3 := Lib.hid (O2.out.kept hG3 (by rintro j ⟨⟩; exact hrl))
      have R3 := Lib.hid hR3
      have G3 := Lib.hid (only_trans G2.out hG3)
      clear hR3 hG3 O2 R2 G2
      by_cases hu : u = 0
      · subst hu
        go_wp2_with fail
        refine (frame_any _ r (N + 600 * j + 1 + 1) R3.out (by omega)).mono ?_
        rintro e w4 ⟨k1, k2, k3, k4, s, Ai, ci, rs, rfl, hrs, hss, hI, hR4, hG4⟩
        have O4 := Lib.hid (O3.out.kept hG4 (by rintro j ⟨⟩; exact hrl))
        have I4 := Lib.hid (hI.mono G3.out.size)
        have G4 := Lib.hid (only_trans G3.out hG4)
        have R4 := Lib.hid hR4
        have hob := Lib.hid (own_ffrom O4.out)
        clear hR4 hG4 hI O3 R3 G3
        go_wp2_with (at_builtin; refine wpList_append_frm (by rfl) (.tmp 20) (.tmp 23) (by rfl) w.heap.size A c fs (by rfl) O4.out _ k1 k2 k3 k4 s Ai ci rs (by rfl) (by rfl) I4.out (by omega) G4.out.size ?_; intro A' c' w' qs hqs hql O6 B6 g6)
        have R6 := Lib.hid (((R4.out.alloc _).grown g6.out (fun g hg => by have := hob.out g hg; omega)).mono (show N + 600 * j + 1 + 1 + 500 ≤ N + 5000 by omega))
        have G6 := Lib.hid (only_far (only_alloc G4.out _) g6.out hob.out)
        have S6 := Lib.hid (all_fine hS.out hqs.out ⟨hrs, hss⟩)
        have D := Lib.hid (show DrewFs w r (N + 5000) (.returned (.slice A' qs.length c')) w' from ⟨A', c', qs, rfl, by rw [hql.out]; omega, S6.out, O6.out, R6.out, G6.out⟩)
        go_wp2_with fail
        go_ret
        exact D.out
      · have D := Lib.hid (show DrewFs w r (N + 5000) (.returned (.slice A fs.length c)) w3 from ⟨A, c, fs, rfl, by omega, hS.out, O3.out, R3.out.mono (by omega), G3.out⟩)
        go_wp2_with fail
        go_ret
        exact D.out
def SomeFs (w : World) (e : Ending) (w' : World) : Prop := ∃ A c fs, e = .returned (.slice A fs.length c) ∧ fs.length ≤ 10 ∧ Hid (∀ v ∈ fs, (v : Fv).rs.length ≤ 40 ∧ v.s.size ≤ 24) ∧ OwnFs w' w.heap.size A c fs ∧ Below w.heap.size w w'
theorem drawFs_any (A : Option Addr) (len cap : Nat) (w : World) (h : CodeArg w A len cap) : Calls Try.prog 20 #[.slice A len cap] w (SomeFs w) := by
  go_enter Try.func20, Try.ntmps20
  go_wp2_with fail
  refine (open_any A len cap w h).mono ?_
  rintro e w1 ⟨r, rfl, hR, hB, hr⟩
  have R1 := Lib.hid hR
  clear hR
  go_wp2_with fail
  refine (frames_any w1 r 0 R1.out (by omega)).mono ?_
  rintro e w2 ⟨A2, c2, fs, rfl, hl, hs, hO, _, hG⟩
  have D := Lib.hid (show SomeFs w (.returned (.slice A2 fs.length c2)) w2 from ⟨A2, c2, fs, rfl, hl, hs, hO.mono hB.size, below_only hB hr hG⟩)
  clear hG hO hs
  go_wp2
  go_ret
  exact D.out
end Go.Proofs.Ytibnjbbiagjnjaa
