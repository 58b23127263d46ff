/- The contract of spec.Derive. No condition but bounds on lengths. -/
import Derived.Test.YtamddfacmmjglaaDSDer
import Derived.Test.YtamddfacmmjglaaDOwn
namespace Go.Proofs.Ytamddfacmmjglaa
open Go.RowKit
set_option linter.unusedVariables false
theorem OwnInts.empty (w : World) (B : Nat) (hB : B ≤ w.heap.size) : OwnInts (w.alloc (.cells #[] 3)) B (some ⟨w.heap.size, 0, none⟩) 0 [] :=
  World.ownsRow_lit w #[] 0 hB (by unfold maxLen; omega) rfl
def SDerPost (w : World) (m : Nat) (e : Ending) (w' : World) : Prop := ∃ g, e = .returned (.slice (some ⟨g, 0, none⟩) 21 21) ∧ HRow w' g g m ∧ Below w.heap.size w w'
theorem sder_is {B B' : Nat} {A A' : Option Addr} {bs : List Bx} {ks : List Int} {m : Nat} (c c' : Nat) (w : World) (h : BxIn w B A bs) (h' : IntsIn w B' A' ks) (hBw : B ≤ w.heap.size) (hBw' : B' ≤ w.heap.size) (hb : bvalid bs = true) (hk : kvalid ks = true) (hm : der bs ks = m) :
    Calls Try.prog 34 #[.slice A bs.length c, .slice A' ks.length c', .int .i64 0] w (SDerPost w m) := by
  subst hm
  refine (sder_any B B' A A' bs ks c c' w h h' hBw hBw' hb hk).mono ?_
  rintro e w' ⟨h1, h2, h3⟩
  exact ⟨_, h1, h2, h3⟩
theorem HRow.kept {w w' : World} {g m B : Nat} {A : Option Addr} {c : Nat} {xs : List Int} (h : HRow w g g m) (hO : OwnInts w B A c xs) (hg : w.grownBy w' (Value.slice A xs.length c).ownBlock) : HRow w' g g m :=
  World.ownsRow.kept h hg (.inr fun e => own_ne h hO (by decide) g rfl e.symm)
theorem HRow.alloc {w : World} {g m : Nat} (h : HRow w g g m) (o : Obj) : HRow (w.alloc o) g g m := World.ownsRow.alloc h o
theorem dupto_at (m k : Nat) (h : 1 ≤ k) : dupto m k = dupto m (k - 1) ++ (if m.testBit k then [(k : Int)] else []) := by
  obtain ⟨n, rfl⟩ : ∃ n, k = n + 1 := ⟨k - 1, by omega⟩
  rw [dupto_succ]
  have e : ((n : Int) + 1).toNat = n + 1 := by omega
  rw [e]
  rfl
set_option maxHeartbeats 1600000 in
theorem sder2_any (B B' : Nat) (A A' : Option Addr) (bs : List Bx) (ks : List Int) (c c' : Nat) (w : World) (h : BxIn w B A bs) (h' : IntsIn w B' A' ks) (hBw : B ≤ w.heap.size) (hBw' : B' ≤ w.heap.size) (hm : bs.length ≤ 2000000) (hmi : ∀ b ∈ bs, b.ins.length ≤ 1000000000000) (hmk : ks.length ≤ 1000000000000) :
    Calls Try.prog 16 #[.slice A bs.length c, .slice A' ks.length c'] w (CopyPost w (dout bs ks)) := by
  have MI := Lib.hid hmi
  have E0 := Lib.hid (OwnInts.empty w w.heap.size (Nat.le_refl _))
  have B0 := Lib.hid ((Below.refl w.heap.size w).alloc (Nat.le_refl _) (.cells #[] 3))
  have H := Lib.hid (h.below (B0.out.mono hBw))
  have H' := Lib.hid (h'.below (B0.out.mono hBw'))
  have Z := Lib.hid (Nat.le_trans hBw B0.out.size)
  have Z' := Lib.hid (Nat.le_trans hBw' B0.out.size)
  obtain ⟨q1, hq1⟩ : ∃ q, bvalid bs = q := ⟨_, rfl⟩
  obtain ⟨q2, hq2⟩ : ∃ q, kvalid ks = q := ⟨_, rfl⟩
  have Q1 := Lib.hid hq1
  have Q2 := Lib.hid hq2
  have D := Lib.hid (show dout bs ks = if q1 && q2 then dlist (der bs ks) else [] by unfold dout; rw [hq1, hq2])
  obtain ⟨m, hd⟩ : ∃ d, der bs ks = d := ⟨_, rfl⟩
  have DD := Lib.hid hd
  clear h h' hmi hq1 hq2 hd
  go_enter Try.func16, Try.ntmps16
  go_wp2_with fail
  refine (sbv_any B A bs c _ q1 H.out hm MI.out Q1.out).mono ?_
  rintro e w1 ⟨rfl, rfl⟩
  cases q1 with
  | false =>
    go_wp2_with fail
    go_ret
    rw [D.out]
    exact ⟨_, _, rfl, E0.out, B0.out⟩
  | true =>
    go_wp2_with fail
    refine (sknown_any B' A' ks c' _ q2 H'.out hmk Q2.out).mono ?_
    rintro e w1 ⟨rfl, rfl⟩
    cases q2 with
    | false =>
      go_wp2_with fail
      go_ret
      rw [D.out]
      exact ⟨_, _, rfl, E0.out, B0.out⟩
    | true =>
      go_wp2_with fail
      refine (sder_is c c' _ H.out H'.out Z.out Z'.out Q1.out Q2.out DD.out).mono ?_
      rintro e w1 ⟨g, rfl, hR, hB⟩
      have R1 := Lib.hid hR
      have B1 := Lib.hid (drew2 B0.out hB)
      have E1 := Lib.hid (E0.out.below hB)
      clear hR hB E0 H H'
      go_wp2_with fail
      go_loopw [5, 7] (fun o i wr => ∃ (k : Nat) (A : Option Addr) (c : Nat) (xs : List Int), 1 ≤ k ∧ k ≤ 21 ∧ i = .int .i64 (k : Int) ∧ o = .slice A xs.length c ∧ Hid (xs = dupto m (k - 1)) ∧ xs.length ≤ 20 ∧ Hid (OwnInts wr w.heap.size A c xs) ∧ Hid (HRow wr g g m) ∧ Hid (Below w.heap.size w wr)) (fun _ i _ => 21 - (intOf i).toNat)
      case atStart => exact ⟨1, _, _, [], by omega, by omega, rfl, rfl, rfl, by simp, E1.out, R1.out, B1.out⟩
      case round =>
        clear E1 R1 B1
        obtain ⟨k, A, c, xs, hk0, hk1, rfl, rfl, hx, hl, hO, hR, hB⟩ := hrel
        by_cases hlt : k ≤ 20
        · obtain ⟨g1, f1⟩ := hR.out.cell k (by omega)
          have S := Lib.hid (dupto_at m k hk0)
          obtain ⟨q, hq⟩ : ∃ q, m.testBit k = q := ⟨_, rfl⟩
          rw [hq] at g1 S
          clear hq
          cases q with
          | false =>
            have X := Lib.hid (show xs = dupto m (k + 1 - 1) by rw [Nat.add_sub_cancel, S.out, ← hx.out]; simp)
            go_wp2_with fail
            go_roundw
            case rel => exact ⟨k + 1, A, c, xs, by omega, by omega, by go_num, rfl, X.out, hl, hO.out, hR.out, hB.out⟩
            case measure => simp [intOf]; omega
          | true =>
            have X := Lib.hid (show xs ++ [(k : Int)] = dupto m (k + 1 - 1) by rw [Nat.add_sub_cancel, S.out, ← hx.out]; rfl)
            have L := Lib.hid (show (xs ++ [(k : Int)]).length ≤ 20 by rw [X.out]; have := dupto_len m (k + 1 - 1); omega)
            have hcell : (wr.alloc (.cells #[.int .i64 (k : Int)] 3)).cell? ⟨wr.heap.size, 0, none⟩ = some (.int .i64 (k : Int)) := cell_lit wr [.int .i64 (k : Int)] 3 0 _ rfl
            have hBs : w.heap.size ≤ (wr.alloc (.cells #[.int .i64 (k : Int)] 3)).heap.size := by have := hB.out.size; simp; omega
            go_wp2_with (at_builtin; refine wpList_append_int rfl (.tmp 29) (.tmp 31) rfl w.heap.size A c xs rfl (hO.out.alloc _) wr.heap.size (k : Int) rfl hcell (by omega) hBs ?_; intro A' c' w3 hO3 hg3 hB3)
            have hR3 := Lib.hid ((hR.out.alloc (.cells #[.int .i64 (k : Int)] 3)).kept (hO.out.alloc _) hg3)
            have hO3' := Lib.hid hO3
            have hB3' := Lib.hid (((hB.out).alloc hB.out.size _).trans hB3)
            clear hO3 hg3 hB3
            go_wp2
            go_roundw
            case rel => exact ⟨k + 1, A', c', xs ++ [(k : Int)], by omega, by omega, by go_num, by simp, X.out, L.out, hO3'.out, hR3.out, hB3'.out⟩
            case measure => simp [intOf]; omega
        · have hk' : k = 21 := by omega
          have F := Lib.hid (show CopyPost w (dout bs ks) (.returned (.slice A xs.length c)) wr by
            have e : xs = dout bs ks := by rw [hx.out, hk', D.out, DD.out]; exact dupto_all m
            rw [← e]; exact ⟨A, c, rfl, hO.out, hB.out⟩)
          clear hk'
          go_wp2_with fail
          go_ret
          exact F.out
end Go.Proofs.Ytamddfacmmjglaa
