/- The contract of a drawn text, and of the laws' drawn texts. No condition but that the reader has not been asked too often. -/
import Derived.Test.YtnmanfjhbppbdaaNum
import Derived.Test.YtnmanfjhbppbdaaVEnc
namespace Go.Proofs.Ytnmanfjhbppbdaa
open Go.RowKit
/-- A drawn text of at most M bytes: the reader goes on, only its block (and what is new) has turned. -/
def DrewText (w : World) (r N M : Nat) (e : Ending) (w' : World) : Prop :=
  ∃ s : ByteArray, e = .returned (.string s) ∧ s.size ≤ M ∧ Rd w' r N ∧ w.grownBy w' (some r)
theorem only_of_below {a w : World} (h : Below a.heap.size a w) (row : Option Nat) : a.grownBy w row := ⟨h.os, h.tape, h.output, h.size, fun i hi _ => h.block i hi⟩
theorem venc_len (n : Int) : (venc n).length ≤ 4 := by unfold venc; (repeat' split) <;> simp [vb1, vb2, vb4]
theorem size_text (l : List UInt8) : (⟨l.toArray⟩ : ByteArray).size = l.length := by simp [ByteArray.size]
theorem size_one (a : UInt8) : (⟨#[a]⟩ : ByteArray).size = 1 := rfl

set_option maxHeartbeats 400000 in
theorem bytes_any (w : World) (r N : Nat) (h : Rd w r N) (hN : N ≤ 1000000000) :
    Calls Try.prog 50 #[.pointer (some ⟨r, 0, none⟩)] w (DrewText w r (N + 200) 100) := by
  have H := Lib.hid h
  have kc := conv1
  clear h
  go_enter Try.func50, Try.ntmps50
  go_wp2_with fail
  go_loopw [3, 4] (fun o i wr => ∃ (k : Nat) (s : ByteArray), k ≤ 3 ∧ i = .int .i64 k ∧ o = .string s ∧ Hid (s.size ≤ 4 * k) ∧ Hid (Rd wr r (N + 30 * k)) ∧ Hid (w.grownBy wr (some r))) (fun _ i _ => 4 - (intOf i).toNat)
  case atStart => exact ⟨0, ByteArray.empty, by omega, rfl, rfl, Nat.le_refl _, H.out, World.grownBy.refl w _⟩
  case round =>
    obtain ⟨k, s, hk, rfl, rfl, hs, hR, hG⟩ := hrel
    go_wp2_with fail
    refine (pick_any _ r (N + 30 * k) 4 hR.out (by omega) (by omega) (by omega)).mono ?_
    rintro e w2 ⟨t, rfl, ht0, ht1, hR2, hG2⟩
    have hR2' := Lib.hid hR2
    have hG2' := Lib.hid (only_trans hG.out hG2)
    clear hR2 hG2
    by_cases hlt : (k : Int) < t
    · go_wp2_with fail
      refine (pick_any _ r (N + 30 * k + 1) 3 hR2'.out (by omega) (by omega) (by omega)).mono ?_
      rintro e w3 ⟨u, rfl, hu0, hu1, hR3, hG3⟩
      have hR3' := Lib.hid hR3
      have hG3' := Lib.hid (only_trans hG2'.out hG3)
      clear hR3 hG3
      by_cases hu : 0 < u
      · go_wp2_with fail
        refine (num_any _ r (N + 30 * k + 1 + 1) hR3'.out (by omega)).mono ?_
        rintro e w4 ⟨m, rfl, _, _, hR4, hG4⟩
        have hR4' := Lib.hid hR4
        have hG4' := Lib.hid (only_trans hG3'.out hG4)
        clear hR4 hG4
        go_wp2_with fail
        refine (sencode_any m w4).mono ?_
        rintro e w5 ⟨rfl, hB5⟩
        have hR5 := Lib.hid ((hR4'.out.below hB5).mono (show N + 30 * k + 1 + 1 + 20 ≤ N + 30 * (k + 1) by omega))
        have hG5 := Lib.hid (only_trans hG4'.out (only_of_below hB5 _))
        have hs5 : Hid ((s ++ ⟨(venc m).toArray⟩ : ByteArray).size ≤ 4 * (k + 1)) := by
          have h1 := venc_len m
          have h2 := hs.out
          show _ ≤ _
          rw [ByteArray.size_append, size_text (venc m)]; omega
        have cat : ∀ W, (Op.stringOp .add s ⟨(venc m).toArray⟩).run Try.prog W = .ok (.string (s ++ ⟨(venc m).toArray⟩)) W := fun W => run_string_add_sum W _ _ (by
          have h1 := venc_len m
          have h2 := hs.out
          rw [size_text (venc m)]; omega)
        clear hB5
        go_wp2
        go_roundw
        case rel => exact ⟨k + 1, _, by omega, by go_num, rfl, hs5, hR5, hG5⟩
        case measure => simp [intOf]; omega
      · go_wp2_with fail
        refine (pick_any _ r (N + 30 * k + 1 + 1) 256 hR3'.out (by omega) (by omega) (by omega)).mono ?_
        rintro e w4 ⟨m, rfl, hm0, hm1, hR4, hG4⟩
        have hR4' := Lib.hid hR4
        have hG4' := Lib.hid (only_trans hG3'.out hG4)
        clear hR4 hG4
        have hR5 : ∀ o, Hid (Rd (w4.alloc o) r (N + 30 * (k + 1))) := fun o => (hR4'.out.alloc o).mono (by omega)
        have hR5' := Lib.hid hR5
        have hG5 : ∀ o, Hid (w.grownBy (w4.alloc o) (some r)) := fun o => only_alloc hG4'.out o
        have hG5' := Lib.hid hG5
        have hs5 : ∀ a : UInt8, (s ++ ⟨#[a]⟩ : ByteArray).size ≤ 4 * (k + 1) := by
          intro a
          have h2 := hs.out
          rw [ByteArray.size_append, size_one]; omega
        have hs5' := Lib.hid hs5
        have cat : ∀ (a : UInt8) W, (Op.stringOp .add s ⟨#[a]⟩).run Try.prog W = .ok (.string (s ++ ⟨#[a]⟩)) W := fun a W => run_string_add_sum W _ _ (by
          have h2 := hs.out
          rw [size_one]; omega)
        clear hR5 hG5 hs5
        go_wp2
        go_roundw
        case rel => exact ⟨k + 1, _, by omega, by go_num, rfl, hs5'.out _, hR5'.out _, hG5'.out _⟩
        case measure => simp [intOf]; omega
    · have D := Lib.hid (show DrewText w r (N + 200) 100 (.returned (.string s)) w2 from ⟨s, rfl, by have := hs.out; omega, hR2'.out.mono (by omega), hG2'.out⟩)
      go_wp2
      go_ret
      exact D.out

/-- A drawn text, and nothing that was there has turned. -/
def SomeText (w : World) (e : Ending) (w' : World) : Prop := ∃ s : ByteArray, e = .returned (.string s) ∧ s.size ≤ 100 ∧ Below w.heap.size w w'
theorem drawDec_any (A : Option Addr) (len cap : Nat) (w : World) (h : CodeArg w A len cap) : Calls Try.prog 38 #[.slice A len cap] w (SomeText w) := by
  go_enter Try.func38, Try.ntmps38
  go_wp2_with fail
  refine (open_any A len cap w h).mono ?_
  rintro e w1 ⟨r, rfl, hR, hB, hr⟩
  have hR' := Lib.hid hR
  clear hR
  go_wp2_with fail
  refine (bytes_any w1 r 0 hR'.out (by omega)).mono ?_
  rintro e w2 ⟨s, rfl, hs, _, hG⟩
  have D := Lib.hid (show SomeText w (.returned (.string s)) w2 from ⟨s, rfl, hs, below_only hB hr hG⟩)
  clear hG
  go_wp2
  go_ret
  exact D.out
theorem drawSplit_any (A : Option Addr) (len cap : Nat) (w : World) (h : CodeArg w A len cap) : Calls Try.prog 40 #[.slice A len cap] w (SomeText w) := by
  go_enter Try.func40, Try.ntmps40
  go_wp2_with fail
  refine (open_any A len cap w h).mono ?_
  rintro e w1 ⟨r, rfl, hR, hB, hr⟩
  have hR' := Lib.hid hR
  clear hR
  go_wp2_with fail
  refine (bytes_any w1 r 0 hR'.out (by omega)).mono ?_
  rintro e w2 ⟨s, rfl, hs, _, hG⟩
  have D := Lib.hid (show SomeText w (.returned (.string s)) w2 from ⟨s, rfl, hs, below_only hB hr hG⟩)
  clear hG
  go_wp2
  go_ret
  exact D.out
theorem drawMin_any (A : Option Addr) (len cap : Nat) (w : World) (h : CodeArg w A len cap) : Calls Try.prog 39 #[.slice A len cap] w (SomeText w) := by
  go_enter Try.func39, Try.ntmps39
  go_wp2_with fail
  refine (open_any A len cap w h).mono ?_
  rintro e w1 ⟨r, rfl, hR, hB, hr⟩
  have hR' := Lib.hid hR
  clear hR
  go_wp2_with fail
  refine (pick_any w1 r 0 2 hR'.out (by omega) (by omega) (by omega)).mono ?_
  rintro e w2 ⟨t, rfl, ht0, ht1, hR2, hG2⟩
  have hR2' := Lib.hid hR2
  have hB2 := Lib.hid (below_only hB hr hG2)
  clear hR2 hG2 hB
  by_cases ht : t = 0
  · subst ht
    go_wp2_with fail
    refine (num_any w2 r (0 + 1) hR2'.out (by omega)).mono ?_
    rintro e w3 ⟨m, rfl, _, _, _, hG3⟩
    have hB3 := Lib.hid (below_only hB2.out hr hG3)
    clear hG3
    go_wp2_with fail
    refine (sencode_any m w3).mono ?_
    rintro e w4 ⟨rfl, hB4⟩
    have D := Lib.hid (show SomeText w (.returned (.string ⟨(venc m).toArray⟩)) w4 from ⟨_, rfl, by rw [size_text]; have := venc_len m; omega, drew2 hB3.out hB4⟩)
    clear hB4
    go_wp2
    go_ret
    exact D.out
  · have ht' : t = 1 := by omega
    subst ht'
    go_wp2_with fail
    refine (bytes_any w2 r (0 + 1) hR2'.out (by omega)).mono ?_
    rintro e w3 ⟨s, rfl, hs, _, hG⟩
    have D := Lib.hid (show SomeText w (.returned (.string s)) w3 from ⟨s, rfl, hs, below_only hB2.out hr hG⟩)
    clear hG
    go_wp2
    go_ret
    exact D.out
end Go.Proofs.Ytnmanfjhbppbdaa
